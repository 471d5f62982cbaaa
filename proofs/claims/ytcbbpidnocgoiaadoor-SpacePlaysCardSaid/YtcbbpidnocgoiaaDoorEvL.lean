/- What loops come to. -/
import Derived.Test.YtcbbpidnocgoiaaDoorEvK
namespace Go.Proofs.YtcbbpidnocgoiaaDoor.Eng
open Go Go.RowKit
set_option linter.unusedVariables false
set_option linter.unusedSimpArgs false
/-- What a loop comes to. -/
structure LC (U : Univ) where
  F : {R : Type} → TS U → (Exit → TS U → Option R) → Option R
  path : ∀ {R : Type} (s : TS U) (K : Exit → TS U → Option R) (r : R), F s K = some r → ∃ ex s', K ex s' = some r ∧ ∀ {R' : Type} (K' : Exit → TS U → Option R'), F s K' = K' ex s'
/-- One way out. -/
def LC.of {U : Univ} {A : Type} (d : TS U → Option A) (pre : A → Prop) [DecidablePred pre] (ex : Exit) (s' : A → TS U) : LC U := ⟨fun s K => match d s with
  | some x => if pre x then K ex (s' x) else none
  | none => none, fun s K r h => by
  split at h <;> try (cases h; done)
  rename_i x hx
  split at h <;> try (cases h; done)
  rename_i hp
  exact ⟨_, _, h, fun K' => if_pos hp⟩⟩
theorem LC.of_some {U : Univ} {A : Type} {d : TS U → Option A} {pre : A → Prop} [DecidablePred pre] {ex : Exit} {s' : A → TS U} {s : TS U} {p : Exit × TS U} (h : (LC.of d pre ex s').F s (fun e s => some (e, s)) = some p) : ∃ x, d s = some x ∧ pre x ∧ p = (ex, s' x) := by
  unfold LC.of at h
  dsimp only at h
  split at h <;> try (cases h; done)
  rename_i x hx
  split at h <;> try (cases h; done)
  rename_i hp
  cases h
  exact ⟨x, hx, hp, rfl⟩
/-- Two ways out. -/
def LC.of2 {U : Univ} {A : Type} (d : TS U → Option A) (pre : A → Prop) [DecidablePred pre] (c : A → Bool) (ex : Exit) (s' : A → TS U) (ex2 : Exit) (s2 : A → TS U) : LC U := ⟨fun s K => match d s with
  | some x => if pre x then cond (c x) (K ex (s' x)) (K ex2 (s2 x)) else none
  | none => none, fun s K r h => by
  split at h <;> try (cases h; done)
  rename_i x hx
  split at h <;> try (cases h; done)
  rename_i hp
  cases hc : c x with
  | true =>
    rw [hc] at h
    exact ⟨_, _, h, fun K' => by rw [if_pos hp]; rfl⟩
  | false =>
    rw [hc] at h
    exact ⟨_, _, h, fun K' => by rw [if_pos hp]; rfl⟩⟩
theorem LC.of2_some {U : Univ} {A : Type} {d : TS U → Option A} {pre : A → Prop} [DecidablePred pre] {c : A → Bool} {ex : Exit} {s' : A → TS U} {ex2 : Exit} {s2 : A → TS U} {s : TS U} {p : Exit × TS U} (h : (LC.of2 d pre c ex s' ex2 s2).F s (fun e s => some (e, s)) = some p) :
    ∃ x, d s = some x ∧ pre x ∧ p = cond (c x) (ex, s' x) (ex2, s2 x) := by
  unfold LC.of2 at h
  dsimp only at h
  split at h <;> try (cases h; done)
  rename_i x hx
  split at h <;> try (cases h; done)
  rename_i hp
  refine ⟨x, hx, hp, ?_⟩
  cases hc : c x <;> rw [hc] at h <;> (cases h; rfl)
def lpLF {U : Univ} : List (Nat × LC U) → {R : Type} → Nat → TS U → (Exit → TS U → Option R) → Option R
  | [], _, _, _, _ => none
  | (c, L) :: l, _, b, s, K => match Nat.beq b c with
    | true => L.F s K
    | false => lpLF l b s K
def lpL {U : Univ} (l : List (Nat × LC U)) : Lp U := ⟨lpLF l⟩
theorem lpLF_some {U : Univ} {l : List (Nat × LC U)} {R : Type} {b : Nat} {s : TS U} {K : Exit → TS U → Option R} {r : R} (h : lpLF l b s K = some r) :
    ∃ L, (b, L) ∈ l ∧ L.F s K = some r ∧ ∀ {R' : Type} (K' : Exit → TS U → Option R'), lpLF l b s K' = L.F s K' := by
  induction l with
  | nil => cases h
  | cons p l ih =>
    obtain ⟨c, L⟩ := p
    unfold lpLF at h
    split at h
    · rename_i hb
      obtain rfl := Nat.eq_of_beq_eq_true hb
      exact ⟨L, .head _, h, fun K' => by rw [lpLF, Nat.beq_refl]⟩
    · rename_i hb
      obtain ⟨L', hm, h1, h2⟩ := ih h
      exact ⟨L', .tail _ hm, h1, fun K' => by rw [lpLF, hb]; exact h2 K'⟩
theorem lpL_ok {X : Cx} {E : FuncId → Option (Spc X.U)} {an : Ann} {fn : Func} {l : List (Nat × LC X.U)}
    (hb : (match fn.body with | some c => nodupN ((loops c 0).map (·.1)) | none => true) = true)
    (h : ∀ b L, (b, L) ∈ l → ∀ s p, L.F s (fun e s => some (e, s)) = some p → ∃ n, fnLoop X E an (lpL l) fn b n s = some p) : ∀ c, fn.body = some c → LpOk X E an (lpL l) (loops c 0) := fun c hc => by
  rw [hc] at hb
  refine LpOk.of hc hb (fun b' s p hm hs => ?_) fun b' s R K r h' => ?_
  · obtain ⟨L, hL, h1, h2⟩ := lpLF_some hs
    exact h b' L hL s p h1
  · obtain ⟨L, hL, h1, h2⟩ := lpLF_some h'
    obtain ⟨ex, s', hk, hall⟩ := L.path s K r h1
    exact ⟨ex, s', hk, fun K' => by show lpLF l b' s K' = _; rw [h2]; exact hall K'⟩
end Go.Proofs.YtcbbpidnocgoiaaDoor.Eng
