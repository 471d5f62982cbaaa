/- Texts of this claim, put together: part 8. -/
import Derived.Test.YtmcflglkfgnbbaaDoorProg
import Derived.RangeFuncWrites
import Derived.RangeFuncBox
import Derived.RangeFuncLeaves
import Derived.RangeFuncCalls
import Derived.Shelf.Abstract
import Derived.Shelf.RegionOpen
import Derived.WalkKit
import Derived.OwnWalkIn
import Derived.TacticsInMore
import Derived.LoopNIn
import Derived.LoopIn
import Derived.Test.YtmcflglkfgnbbaaDoorMzB
import Derived.Test.YtmcflglkfgnbbaaDoorMzG
/- Rows, copies, searching. -/
namespace Go.Proofs.YtmcflglkfgnbbaaDoor.Nd
open Go Go.RowKit Go.Proofs.YtmcflglkfgnbbaaDoor.Eng
set_option linter.unusedVariables false
set_option linter.unusedSimpArgs false
set_option maxRecDepth 20000
def nvS (n : Nat) : List (List SV) → SV
  | [] => .v (.slice none 0 0)
  | x :: l => .lst n (x :: l)
def nlv : TV U := .v (.slice none 0 0)
def nvL (c : C) (xs : List (U.T c)) : TV U := match xs with
  | [] => nlv
  | _ :: _ => .lst c xs
def tkL (c : C) : TV U → Option (List (U.T c))
  | .v (.slice none 0 0) => some []
  | .lst c' (x :: l) => castL c' c (x :: l)
  | _ => none
theorem castL_eq {U : Univ} {c c' : U.C} {xs : List (U.T c')} {zs : List (U.T c)} (h : castL c' c xs = some zs) : (TV.lst c' xs : TV U) = .lst c zs ∧ xs.length = zs.length := by
  unfold castL at h
  split at h
  · rename_i e _
    subst e
    cases h
    exact ⟨rfl, rfl⟩
  · cases h
theorem tkL_ok {c : C} {v : TV U} {xs : List (U.T c)} (h : tkL c v = some xs) : v = nvL c xs := by
  unfold tkL at h
  split at h
  · cases h; rfl
  · rename_i c' x l
    obtain ⟨e, hl⟩ := castL_eq h
    rw [e]
    cases xs with
    | nil => cases hl
    | cons => rfl
  · cases h
theorem nvL_itp (c : C) (xs : List (U.T c)) (rl : Nat → Nat) : (nvL c xs).itp rl = nvS (sz c) (xs.map (encS c)) := by cases xs <;> rfl
def zP : Array Value := (Value.agg #[Value.int .i64 0, Value.int .u64 0]).cells
theorem rawP : InsRaw Tryd.prog 36 2 16 54 zP := ⟨insp_shift, insp_grow, insp_room, insp_end, by decide, rfl, by decide⟩
theorem fnOk (F : Nat) (fn : Func) (h : Tryd.prog.funcs[F]? = some fn) (h1 : (fn.name == "runtime.NumGoroutine") = false) (h2 : fn.body.isSome = true) : ∃ fn, Tryd.prog.funcs[F]? = some fn ∧ (fn.name == "runtime.NumGoroutine") = false ∧ fn.body.isSome = true := ⟨fn, h, h1, h2⟩
def dIP (objs : List (TO U)) (args : List (TV U)) : Option (List R54 × List R54 × Int) := match objs, args with
  | [o0, o1], [a0, a1, a2] =>
    match o0 with
    | .row .t54 xs false =>
      match o1 with
      | .row .t54 ys false =>
        match a0 with
        | .full 0 =>
          match a1 with
          | .v (.int .i64 i) =>
            match a2 with
            | .full 1 =>
              some (xs, ys, i)
            | _ => none
          | _ => none
        | _ => none
      | _ => none
    | _ => none
  | _, _ => none
theorem dIP_ok {objs : List (TO U)} {args : List (TV U)} {xs : List R54} {ys : List R54} {i : Int} (h : dIP objs args = some (xs, ys, i)) : objs = [.row .t54 xs false, .row .t54 ys false] ∧ args = [.full 0, .v (.int .i64 i), .full 1] := by
  unfold dIP at h
  repeat' split at h
  all_goals first | (cases h; done) | (cases h; exact ⟨rfl, rfl⟩)
def dNP (objs : List (TO U)) (args : List (TV U)) : Option (List R54 × Int) := match objs, args with
  | [o0], [a0, a1, a2] =>
    match o0 with
    | .row .t54 ys false =>
      match a0 with
      | .v (.slice none 0 0) =>
        match a1 with
        | .v (.int .i64 i) =>
          match a2 with
          | .full 0 =>
            some (ys, i)
          | _ => none
        | _ => none
      | _ => none
    | _ => none
  | _, _ => none
theorem dNP_ok {objs : List (TO U)} {args : List (TV U)} {ys : List R54} {i : Int} (h : dNP objs args = some (ys, i)) : objs = [.row .t54 ys false] ∧ args = [.v (.slice none 0 0), .v (.int .i64 i), .full 0] := by
  unfold dNP at h
  repeat' split at h
  all_goals first | (cases h; done) | (cases h; exact ⟨rfl, rfl⟩)
def insL {α : Type} (xs ys : List α) (i : Int) : List α := xs.take i.toNat ++ (ys ++ xs.drop i.toNat)
def delL {α : Type} (xs : List α) (i j : Int) : List α := xs.take i.toNat ++ xs.drop j.toNat
def isNl : List (TV U) → Bool
  | .v (.slice none 0 0) :: _ => true
  | _ => false
def alt {U : Univ} (c : List (TV U) → Bool) (S T : Spc U) : Spc U := ⟨fun objs args k => cond (c args) (S.F objs args k) (T.F objs args k)⟩
theorem alt_ok {U : Univ} {P : Program} {f : FuncId} {c : List (TV U) → Bool} {S T : Spc U} (h : SpecOk P f S) (h2 : SpecOk P f T) : SpecOk P f (alt c S T) := by
  refine ⟨h.fn, fun objs args => ?_, fun objs args objs' res hs => ?_⟩
  · intro R k r hk
    unfold alt at hk ⊢
    dsimp only at hk ⊢
    cases hc : c args with
    | true => rw [hc] at hk; exact h.path objs args _ _ hk
    | false => rw [hc] at hk; exact h2.path objs args _ _ hk
  · unfold alt at hs
    dsimp only at hs
    cases hc : c args with
    | true => rw [hc] at hs; exact h.ok objs args _ _ hs
    | false => rw [hc] at hs; exact h2.ok objs args _ _ hs
noncomputable def sInsP0 : Spc U := .of dIP (fun (xs, ys, i) => PreIns xs.length ys.length 16 i) (fun (xs, ys, i) => [.dead xs.length, .row .t54 ys false, .row .t54 (insL xs ys i) false]) fun _ => .full 2
noncomputable def sInsPN : Spc U := .of dNP (fun (ys, i) => PreN ys.length i) (fun (ys, i) => [.dead ys.length, .row .t54 ys false]) fun _ => .full 1
noncomputable def sInsP : Spc U := alt isNl sInsPN sInsP0
theorem sInsPN_ok : SpecOk Tryd.prog 36 sInsPN := SpecOk.insN (U := U) (c := C.t54) (d := dNP) rawP (by decide) rfl (fun _ => rfl) (fnOk _ _ Tryd.func36 (by kernel_rfl) (by kernel_rfl)) fun h => dNP_ok h
theorem sInsP0_ok : SpecOk Tryd.prog 36 sInsP0 := SpecOk.ins (U := U) (c := C.t54) (d := dIP) rawP rfl (fun _ => rfl) (fnOk _ _ Tryd.func36 (by kernel_rfl) (by kernel_rfl)) fun h => dIP_ok h
theorem sInsP_ok : SpecOk Tryd.prog 36 sInsP := alt_ok sInsPN_ok sInsP0_ok
def an0 : Ann := ⟨fun _ => 0, fun _ => 0, fun _ => [], false⟩
def anO : Ann := ⟨fun _ => 0, fun _ => 0, fun _ => [], true⟩
def E0 : FuncId → Option (Spc U) := fun _ => none
theorem E0_ok : ∀ f S, E0 f = some S → SpecOk Tryd.prog f S := fun f S h => by cases h
def nvF {α : Type} (k : Nat) (xs : List α) : TV U := match xs with
  | [] => nlv
  | _ :: _ => .full k
def nvR (c : C) (xs : List (U.T c)) : List (TO U) := match xs with
  | [] => []
  | _ :: _ => [.row c xs false]
def nnE {α : Type} (xs : List α) : Nat := match xs with
  | [] => 0
  | _ :: _ => 1
def dNv1 (c : C) (objs : List (TO U)) (args : List (TV U)) : Option (List (U.T c)) := match objs, args with
  | [], [a] => tkL c a
  | _, _ => none
theorem dNv1_ok {c : C} {objs : List (TO U)} {args : List (TV U)} {xs : List (U.T c)} (h : dNv1 c objs args = some xs) : objs = [] ∧ args = [nvL c xs] := by
  unfold dNv1 at h
  split at h
  · exact ⟨rfl, by rw [tkL_ok h]⟩
  · cases h
def Sn (n : Nat) : Prop := n ≤ 1000000000
instance (n : Nat) : Decidable (Sn n) := by unfold Sn; infer_instance
theorem half_eq {a : Int} (h0 : 0 ≤ a) (h1 : a ≤ 4000000000) : IntKind.i64.wrap ((IntKind.u64.wrap (IntKind.i64.wrap a)).fdiv (2 ^ min (Int.toNat 1) IntKind.u64.bits)) = a / 2 := by
  have e1 : IntKind.i64.wrap a = a := by rw [IntKind.wrap_i64]; omega
  have e2 : IntKind.u64.wrap a = a := by rw [IntKind.wrap_u64]; omega
  have e3 : (2 : Int) ^ min (Int.toNat 1) IntKind.u64.bits = 2 := rfl
  rw [e1, e2, e3, Int.fdiv_eq_ediv_of_nonneg _ (by decide), IntKind.wrap_i64]
  omega
theorem wr {a : Int} (h0 : -4000000000 ≤ a) (h1 : a ≤ 4000000000) : IntKind.i64.wrap a = a := by rw [IntKind.wrap_i64]; omega
theorem getE {α : Type} {l : List α} {v : Int} (h0 : 0 ≤ v) (h1 : v < l.length) : ∃ z, getI l v = some z ∧ l[v.toNat]? = some z := by
  have hx : l[v.toNat]? = some l[v.toNat] := List.getElem?_eq_getElem (by omega)
  exact ⟨_, by unfold getI; rw [if_pos h0, hx], hx⟩
end Go.Proofs.YtmcflglkfgnbbaaDoor.Nd

/- Sets of numbers by parts of 64: plain. -/
namespace Go.Proofs.YtmcflglkfgnbbaaDoor.Bt
open Go Go.RowKit Go.Proofs.YtmcflglkfgnbbaaDoor.Eng Go.Proofs.YtmcflglkfgnbbaaDoor.Nd
set_option linter.unusedVariables false
theorem tw_lt {α : Type} {p : α → Bool} : ∀ {l : List α}, (l.Pairwise fun a b => p b = true → p a = true) → ∀ {i : Nat} {x : α}, l[i]? = some x → p x = true → i < (l.takeWhile p).length
  | [], _, i, x, h, _ => by simp at h
  | y :: l, hm, i, x, h, hx => by
    rw [List.pairwise_cons] at hm
    have hy : p y = true := by
      cases i with
      | zero => have : y = x := by simpa using h
                rw [this]; exact hx
      | succ i => exact hm.1 x (List.mem_of_getElem? (by simpa using h)) hx
    rw [List.takeWhile_cons, hy]
    show i < ((y :: l.takeWhile p)).length
    cases i with
    | zero => simp
    | succ i =>
      have := tw_lt hm.2 (i := i) (by simpa using h) hx
      rw [List.length_cons]
      omega
theorem tw_ge {α : Type} {p : α → Bool} : ∀ {l : List α} {i : Nat} {x : α}, l[i]? = some x → p x = false → (l.takeWhile p).length ≤ i
  | [], i, x, h, _ => by simp at h
  | y :: l, i, x, h, hx => by
    cases i with
    | zero =>
      have : y = x := by simpa using h
      rw [List.takeWhile_cons, this, hx]
      simp
    | succ i =>
      have := tw_ge (l := l) (i := i) (by simpa using h) hx
      rw [List.takeWhile_cons]
      split
      · rw [List.length_cons]; omega
      · simp
theorem tw_le {α : Type} (p : α → Bool) (l : List α) : (l.takeWhile p).length ≤ l.length := (List.takeWhile_prefix p).length_le
def atB (a : Int) (p : R54) : Bool := decide (p.At < a)
/-- How many parts are ahead of a place. -/
def rkP (ps : List R54) (a : Int) : Nat := (ps.takeWhile (atB a)).length
def hereP (ps : List R54) (a : Int) : Bool := match ps[rkP ps a]? with
  | some p => decide (p.At = a)
  | none => false
def RiseP (ps : List R54) : Prop := ps.Pairwise fun a b => a.At < b.At
def OkP (ps : List R54) : Prop := RiseP ps ∧ ∀ p ∈ ps, (0 ≤ p.At ∧ p.At < 16384) ∧ 0 < p.Bits ∧ p.Bits < 18446744073709551616
theorem RiseP.at {ps : List R54} (h : RiseP ps) (a : Int) : ps.Pairwise fun x y => atB a y = true → atB a x = true := h.imp fun hxy hy => by
  unfold atB at hy ⊢
  have := of_decide_eq_true hy
  exact decide_eq_true (by omega)
theorem rkP_le (ps : List R54) (a : Int) : rkP ps a ≤ ps.length := tw_le _ _
theorem rkP_lt {ps : List R54} (h : RiseP ps) {a : Int} {i : Nat} {p : R54} (hp : ps[i]? = some p) (hx : p.At < a) : i < rkP ps a := tw_lt (h.at a) hp (decide_eq_true hx)
theorem rkP_ge {ps : List R54} {a : Int} {i : Nat} {p : R54} (hp : ps[i]? = some p) (hx : ¬ p.At < a) : rkP ps a ≤ i := tw_ge hp (decide_eq_false hx)
/-- How many parts there may be. -/
theorem riseP_len : ∀ {ps : List R54} {lo : Int}, RiseP ps → (∀ p ∈ ps, lo ≤ p.At ∧ p.At < 16384) → lo ≤ 16384 → (ps.length : Int) ≤ 16384 - lo
  | [], lo, _, _, h => by simp; omega
  | p :: ps, lo, h, hb, _ => by
    have hp := hb p List.mem_cons_self
    have h' := List.pairwise_cons.1 h
    have := riseP_len (ps := ps) (lo := p.At + 1) h'.2 (fun q hq => ⟨by have := h'.1 q hq; omega, (hb q (List.mem_cons_of_mem _ hq)).2⟩) (by omega)
    rw [List.length_cons]
    omega
theorem OkP.len {ps : List R54} (h : OkP ps) : ps.length ≤ 16384 := by
  have := riseP_len h.1 (lo := 0) (fun p hp => (h.2 p hp).1) (by omega)
  omega
/-- Is a number among those of a part? -/
def bitP (b : Int) (i : Nat) : Bool := b.toNat.testBit i
/-- Is a number in a set? -/
def hasP (ps : List R54) (n : Int) : Bool := match ps[rkP ps (n / 64)]? with
  | some p => decide (p.At = n / 64) && bitP p.Bits (n % 64).toNat
  | none => false
/-- A number of 64 bits, so far shifted, and the last one. -/
def shB (b n : Int) : Int := b.fdiv (2 ^ min (n.tmod 64).toNat IntKind.u64.bits)
theorem shB_nat (b n : Nat) : shB (b : Int) (n : Int) = ((b / 2 ^ (n % 64) : Nat) : Int) := by
  unfold shB
  have e1 : ((n : Int).tmod 64).toNat = n % 64 := by
    rw [Int.tmod_eq_emod_of_nonneg (by omega)]
    omega
  have e2 : min (n % 64) IntKind.u64.bits = n % 64 := Nat.min_eq_left (by have := Nat.mod_lt n (show 0 < 64 by omega); show n % 64 ≤ 64; omega)
  rw [e1, e2, Int.fdiv_eq_ediv_of_nonneg _ (Int.le_of_lt (Int.pow_pos (by decide)))]
  have : ((2 : Int) ^ (n % 64)) = ((2 ^ (n % 64) : Nat) : Int) := by rw [Int.natCast_pow]; rfl
  rw [this]
  rfl
def lastB (x : Int) : Int := IntKind.u64.wrap ((BitVec.ofInt IntKind.u64.bits x &&& BitVec.ofInt IntKind.u64.bits 1).toNat : Nat)
theorem lastB_nat (x : Nat) : lastB (x : Int) = ((x % 2 : Nat) : Int) := by
  unfold lastB
  have h : (BitVec.ofInt IntKind.u64.bits (x : Int) &&& BitVec.ofInt IntKind.u64.bits 1).toNat = x % 2 := by
    rw [BitVec.toNat_and]
    have e1 : (BitVec.ofInt IntKind.u64.bits 1).toNat = 1 := by decide
    have e2 : (BitVec.ofInt IntKind.u64.bits (x : Int)).toNat = x % 2 ^ 64 := by
      rw [BitVec.toNat_ofInt]
      show ((x : Int) % ((2 ^ 64 : Nat) : Int)).toNat = _
      omega
    rw [e1, e2, Nat.and_one_is_mod]
    omega
  rw [h]
  show ((x % 2 : Nat) : Int) % (2 ^ 64) = _
  omega
theorem bit_eq {b n : Int} (hb : 0 ≤ b) (hn : 0 ≤ n) : decide (lastB (shB b n) = 1) = bitP b (n % 64).toNat := by
  obtain ⟨b, rfl⟩ := Int.eq_ofNat_of_zero_le hb
  obtain ⟨n, rfl⟩ := Int.eq_ofNat_of_zero_le hn
  rw [shB_nat, lastB_nat]
  have e : ((n : Int) % 64).toNat = n % 64 := by omega
  unfold bitP
  rw [e, Int.toNat_natCast, Nat.testBit_eq_decide_div_mod_eq]
  congr 1
  apply propext
  omega
end Go.Proofs.YtmcflglkfgnbbaaDoor.Bt

/- Sets by parts: finding a part; is a number in a set? -/
namespace Go.Proofs.YtmcflglkfgnbbaaDoor.Bt
open Go Go.RowKit Go.Proofs.YtmcflglkfgnbbaaDoor.Eng Go.Proofs.YtmcflglkfgnbbaaDoor.Nd
set_option linter.unusedVariables false
set_option linter.unusedSimpArgs false
set_option maxRecDepth 20000
theorem wr18 {a : Int} (h0 : -9000000000000000000 ≤ a) (h1 : a ≤ 9000000000000000000) : IntKind.i64.wrap a = a := by rw [IntKind.wrap_i64]; omega
def an90 : Ann := ⟨fun | 0 => 1799 | _ => 0, fun | 0 => 967 | _ => 0, fun _ => [], false⟩
theorem e91 (a : Int) (b : Int) (c : Int) : (evFn X E0 an0 lp0 Tryd.f44 []
  [TV.agg [TV.v (Value.int IntKind.i64 a), TV.v (Value.int IntKind.u64 b)], TV.v (Value.int IntKind.i64 c)]
  fun (o : List (TO X.U)) (v : TV X.U) => some (o, v)) =
  some ([], TV.v (Value.int IntKind.i64 (IntKind.i64.wrap (a - c)))) := by kernel_rfl
def d91 (objs : List (TO U)) (args : List (TV U)) : Option (Int × Int × Int) := match objs, args with
  | [], [a0, a1] =>
    match a0 with
    | .agg [q0, q1] =>
      match q0 with
      | .v (.int .i64 a) =>
        match q1 with
        | .v (.int .u64 b) =>
          match a1 with
          | .v (.int .i64 c) =>
            some (a, b, c)
          | _ => none
        | _ => none
      | _ => none
    | _ => none
  | _, _ => none
theorem d91_ok {objs : List (TO U)} {args : List (TV U)} {a : Int} {b : Int} {c : Int} (h : d91 objs args = some (a, b, c)) : objs = [] ∧ args = [.agg [.v (.int .i64 a), .v (.int .u64 b)], .v (.int .i64 c)] := by
  unfold d91 at h
  repeat' split at h
  all_goals first | (cases h; done) | (cases h; exact ⟨rfl, rfl⟩)
def sDif : Spc U := .of d91 (fun _ => True) (fun _ => []) fun (a, b, c) => .v (.int .i64 (IntKind.i64.wrap (a - c)))
theorem sDif_ok : SpecOk Tryd.prog 44 sDif := by
  refine fn_ok X_ok mixed E0_ok an0 lp0 Tryd.func44 (by kernel_rfl) (by kernel_rfl) (lp0_ok (by kernel_rfl)) fun objs args x hx hp => ?_
  obtain ⟨a, b, c⟩ := x
  obtain ⟨rfl, rfl⟩ := d91_ok hx
  exact e91 a b c
def E90 : FuncId → Option (Spc U)
  | 44 => some sDif
  | _ => none
theorem E90_ok : ∀ f S, E90 f = some S → SpecOk Tryd.prog f S := fun f S h => by
  unfold E90 at h
  split at h
  · cases h; exact sDif_ok
  · cases h
def fnD : TV U := .v (.func (.func 44) #[] #[])
def S90 (xs : List R54) (a n i j : Int) : TS U := mkS 49 [(0, .lst .t54 xs), (1, .v (.int .i64 a)), (2, fnD), (8, .v (.int .i64 n)), (9, .v (.int .i64 i)), (10, .v (.int .i64 j))] [] 0
theorem r90 (lp : Lp
  U) (N : Nat) (xs : List
  R54) (a : Int) (n : Int) (i : Int) (j : Int) : (fnLoop X E90 an90 lp Tryd.f43 0 N.succ (S90 xs a n i j)) =
  bif decide (i < j) then
  (getI xs
        (IntKind.i64.wrap
          ((IntKind.u64.wrap (IntKind.i64.wrap (i + j))).fdiv (2 ^ min (Int.toNat 1) IntKind.u64.bits)))).bind
    fun (z : X.U.T C.t54) =>
    if True then
      bif decide (IntKind.i64.wrap (z.At - a) < 0) then
        fnLoop X E90 an90 lp Tryd.f43 0 N
          (mkS 49
            [(0, TV.lst C.t54 xs), (1, TV.v (Value.int IntKind.i64 a)),
              (2, TV.v (Value.func (Fn.func 44) { toList := [] } { toList := [] })),
              (8, TV.v (Value.int IntKind.i64 n)),
              (9,
                TV.v
                  (Value.int IntKind.i64
                    (IntKind.i64.wrap
                      (IntKind.i64.wrap
                          ((IntKind.u64.wrap (IntKind.i64.wrap (i + j))).fdiv
                            (2 ^ min (Int.toNat 1) IntKind.u64.bits)) +
                        1)))),
              (10, TV.v (Value.int IntKind.i64 j))]
            [] 0)
      else
        fnLoop X E90 an90 lp Tryd.f43 0 N
          (mkS 49
            [(0, TV.lst C.t54 xs), (1, TV.v (Value.int IntKind.i64 a)),
              (2, TV.v (Value.func (Fn.func 44) { toList := [] } { toList := [] })),
              (8, TV.v (Value.int IntKind.i64 n)), (9, TV.v (Value.int IntKind.i64 i)),
              (10,
                TV.v
                  (Value.int IntKind.i64
                    (IntKind.i64.wrap
                      ((IntKind.u64.wrap (IntKind.i64.wrap (i + j))).fdiv (2 ^ min (Int.toNat 1) IntKind.u64.bits)))))]
            [] 0)
    else none
else
  some
    (Exit.exit 0,
      mkS 49
        [(0, TV.lst C.t54 xs), (1, TV.v (Value.int IntKind.i64 a)),
          (2, TV.v (Value.func (Fn.func 44) { toList := [] } { toList := [] })), (8, TV.v (Value.int IntKind.i64 n)),
          (9, TV.v (Value.int IntKind.i64 i))]
        [] 0) := by kernel_rfl
def Q90 (xs : List R54) (a n i j : Int) : Prop := n = xs.length ∧ 0 ≤ i ∧ i ≤ rkP xs a ∧ (rkP xs a : Int) ≤ j ∧ j ≤ xs.length ∧ OkP xs ∧ 0 ≤ a ∧ a ≤ 1000000000000000000
noncomputable instance (xs : List R54) (a n i j : Int) : Decidable (Q90 xs a n i j) := Classical.propDecidable _
def Z90 (xs : List R54) (a n : Int) : TS U := mkS 49 [(0, .lst .t54 xs), (1, .v (.int .i64 a)), (2, fnD), (8, .v (.int .i64 n)), (9, .v (.int .i64 (rkP xs a)))] [] 0
theorem rounds90 (lp : Lp U) (xs : List R54) (a n : Int) : ∀ (N : Nat) (i j : Int), j - i ≤ N → Q90 xs a n i j → fnLoop X E90 an90 lp Tryd.f43 0 (N + 1) (S90 xs a n i j) = some (.exit 0, Z90 xs a n) := by
  intro N
  induction N with
  | zero =>
    intro i j hn ⟨h1, h2, h3, h4, h5, h6, h7, h8⟩
    obtain rfl : i = rkP xs a := by omega
    rw [r90, decide_eq_false (by omega)]
    rfl
  | succ N ih =>
    intro i j hn ⟨h1, h2, h3, h4, h5, h6, h7, h8⟩
    have hlen := h6.len
    by_cases hij : i < j
    · obtain ⟨z, hz, hz2⟩ := getE (l := xs) (v := (i + j) / 2) (by omega) (by omega)
      have hb := h6.2 z (List.mem_of_getElem? hz2)
      rw [r90, decide_eq_true hij, half_eq (by omega) (by omega), hz]
      rw [cond_true, Option.bind_some, if_pos trivial, wr18 (a := z.At - a) (by omega) (by omega)]
      by_cases hl : z.At < a
      · have := rkP_lt h6.1 hz2 hl
        rw [decide_eq_true (by omega), cond_true, wr (a := (i + j) / 2 + 1) (by omega) (by omega)]
        exact ih _ _ (by omega) ⟨h1, by omega, by omega, h4, h5, h6, h7, h8⟩
      · have := rkP_ge hz2 hl
        rw [decide_eq_false (by omega), cond_false]
        exact ih _ _ (by omega) ⟨h1, h2, h3, by omega, by omega, h6, h7, h8⟩
    · obtain rfl : i = rkP xs a := by omega
      rw [r90, decide_eq_false hij]
      rfl
def dl90 (s : TS U) : Option (List R54 × Int × Int × Int × Int) := match told s 49 [0, 1, 2, 8, 9, 10] 0, s.objs with
  | some [.lst .t54 xs, .v (.int .i64 a), .v (.func (.func 44) ⟨[]⟩ ⟨[]⟩), .v (.int .i64 n), .v (.int .i64 i), .v (.int .i64 j)], [] => some (xs, a, n, i, j)
  | _, _ => none
theorem dl90_ok {s : TS U} {xs : List R54} {a n i j : Int} (h : dl90 s = some (xs, a, n, i, j)) : s = S90 xs a n i j := by
  unfold dl90 at h
  split at h <;> try (cases h; done)
  rename_i ht ho
  have hs := told_ok ht
  rw [ho] at hs
  cases h
  exact hs
noncomputable def lc90 : LC U := .of dl90 (fun (xs, a, n, i, j) => Q90 xs a n i j) (.exit 0) fun (xs, a, n, i, j) => Z90 xs a n
noncomputable def lp90 : Lp U := lpL [(0, lc90)]
theorem lp90_ok : ∀ c, Tryd.f43.body = some c → LpOk X E90 an90 lp90 (loops c 0) := lpL_ok (by kernel_rfl) fun b L hm st p hs => by
  cases hm with
  | head =>
    obtain ⟨⟨xs, a, n, i, j⟩, hx, hp, rfl⟩ := LC.of_some hs
    obtain rfl := dl90_ok hx
    exact ⟨_, rounds90 _ xs a n (j - i).toNat i j (by omega) hp⟩
  | tail _ hm => cases hm
theorem e90 (xs : List
  R54) (a : Int) : (evFn X E90 an90 lp90 Tryd.f43 [] [TV.lst C.t54 xs, TV.v (Value.int IntKind.i64 a), fnD]
  fun (o : List (TO X.U)) (v : TV X.U) => some (o, v)) =
  if Q90 xs a (↑xs.length : Int) 0 (↑xs.length : Int) then
  bif decide ((↑(rkP xs a) : Int) < (↑xs.length : Int)) then
    (getI xs (↑(rkP xs a) : Int)).bind fun (z : X.U.T C.t54) =>
      if True then
        some
          ([],
            TV.tup
              [TV.v (Value.int IntKind.i64 (↑(rkP xs a) : Int)),
                TV.v (Value.bool (decide (IntKind.i64.wrap (z.At - a) = 0)))])
      else none
  else some ([], TV.tup [TV.v (Value.int IntKind.i64 (↑(rkP xs a) : Int)), TV.v (Value.bool false)])
else none := by kernel_rfl
def d90 (objs : List (TO U)) (args : List (TV U)) : Option (List R54 × Int) := match objs, args with
  | [], [.lst .t54 xs, .v (.int .i64 a), .v (.func (.func 44) ⟨[]⟩ ⟨[]⟩)] => some (xs, a)
  | _, _ => none
theorem d90_ok {objs : List (TO U)} {args : List (TV U)} {xs : List R54} {a : Int} (h : d90 objs args = some (xs, a)) : objs = [] ∧ args = [.lst .t54 xs, .v (.int .i64 a), fnD] := by
  unfold d90 at h
  split at h <;> try (cases h; done)
  cases h
  exact ⟨rfl, rfl⟩
def PreP (xs : List R54) (a : Int) : Prop := OkP xs ∧ 0 ≤ a ∧ a ≤ 1000000000000000000
noncomputable instance (xs : List R54) (a : Int) : Decidable (PreP xs a) := Classical.propDecidable _
noncomputable def sBsf : Spc U := .of d90 (fun (xs, a) => PreP xs a) (fun _ => []) fun (xs, a) => .tup [.v (.int .i64 (rkP xs a)), .v (.bool (hereP xs a))]
theorem sBsf_ok : SpecOk Tryd.prog 43 sBsf := by
  refine fn_ok X_ok mixed E90_ok an90 lp90 Tryd.func43 (by kernel_rfl) (by kernel_rfl) lp90_ok fun objs args x hx hp => ?_
  obtain ⟨xs, a⟩ := x
  obtain ⟨rfl, rfl⟩ := d90_ok hx
  obtain ⟨h1, h2, h3⟩ := hp
  have hr := rkP_le xs a
  have hlen := h1.len
  refine (e90 xs a).trans ?_
  rw [if_pos (show Q90 xs a xs.length 0 xs.length from ⟨rfl, Int.le_refl 0, by omega, by omega, Int.le_refl _, h1, h2, h3⟩)]
  dsimp only
  by_cases hl : rkP xs a < xs.length
  · obtain ⟨z, hz, hz2⟩ := getE (l := xs) (v := (rkP xs a : Int)) (by omega) (by omega)
    have hz3 : xs[rkP xs a]? = some z := hz2
    have hb := h1.2 z (List.mem_of_getElem? hz3)
    rw [decide_eq_true (by omega), hz]
    unfold hereP
    rw [hz3]
    dsimp only
    rw [cond_true, Option.bind_some, if_pos trivial, wr18 (a := z.At - a) (by omega) (by omega)]
    have : decide (z.At - a = 0) = decide (z.At = a) := by
      congr 1
      apply propext
      omega
    rw [this]
    all_goals try rfl
  · rw [decide_eq_false (by omega)]
    unfold hereP
    rw [List.getElem?_eq_none (by omega)]
    rfl
/-! ### A part of a set -/
noncomputable def E81 : FuncId → Option (Spc U)
  | 43 => some sBsf
  | _ => none
theorem E81_ok : ∀ f S, E81 f = some S → SpecOk Tryd.prog f S := fun f S h => by
  unfold E81 at h
  split at h
  · cases h; exact sBsf_ok
  · cases h
def setT (xs : List R54) : TV U := .agg [.lst .t54 xs]
theorem e81 (xs : List
  R54) (a : Int) : (evFn X E81 an0 lp0 Tryd.f34 [] [setT xs, TV.v (Value.int IntKind.i64 a)]
  fun (o : List (TO X.U)) (v : TV X.U) => some (o, v)) =
  if PreP xs a then some ([], TV.tup [TV.v (Value.int IntKind.i64 (↑(rkP xs a) : Int)), TV.v (Value.bool (hereP xs a))])
else none := by kernel_rfl
def d81 (objs : List (TO U)) (args : List (TV U)) : Option (List R54 × Int) := match objs, args with
  | [], [a0, a1] =>
    match a0 with
    | .agg [q0] =>
      match q0 with
      | .lst .t54 xs =>
        match a1 with
        | .v (.int .i64 a) =>
          some (xs, a)
        | _ => none
      | _ => none
    | _ => none
  | _, _ => none
theorem d81_ok {objs : List (TO U)} {args : List (TV U)} {xs : List R54} {a : Int} (h : d81 objs args = some (xs, a)) : objs = [] ∧ args = [.agg [.lst .t54 xs], .v (.int .i64 a)] := by
  unfold d81 at h
  repeat' split at h
  all_goals first | (cases h; done) | (cases h; exact ⟨rfl, rfl⟩)
noncomputable def sFnd0 : Spc U := .of d81 (fun (xs, a) => PreP xs a) (fun _ => []) fun (xs, a) => .tup [.v (.int .i64 (rkP xs a)), .v (.bool (hereP xs a))]
theorem sFnd0_ok : SpecOk Tryd.prog 34 sFnd0 := by
  refine fn_ok X_ok mixed E81_ok an0 lp0 Tryd.func34 (by kernel_rfl) (by kernel_rfl) (lp0_ok (by kernel_rfl)) fun objs args x hx hp => ?_
  obtain ⟨xs, a⟩ := x
  obtain ⟨rfl, rfl⟩ := d81_ok hx
  exact (e81 xs a).trans (if_pos hp)
noncomputable def sFnd : Spc U := sFnd0.wkA [.a [.l .t54], .no]
theorem sFnd_ok : SpecOk Tryd.prog 34 sFnd := sFnd0_ok.wkA _
noncomputable def E65 : FuncId → Option (Spc U)
  | 34 => some sFnd
  | _ => none
theorem E65_ok : ∀ f S, E65 f = some S → SpecOk Tryd.prog f S := fun f S h => by
  unfold E65 at h
  split at h
  · cases h; exact sFnd_ok
  · cases h
theorem e65 (xs : List
  R54) (a : Int) : (evFn X E65 an0 lp0 Tryd.f11 [] [setT xs, TV.v (Value.int IntKind.i64 a)]
  fun (o : List (TO X.U)) (v : TV X.U) => some (o, v)) =
  bif decide (a < 0) then some ([], TV.v (Value.bool false))
else
  if PreP xs (IntKind.i64.wrap (a.tdiv 64)) then
    bif hereP xs (IntKind.i64.wrap (a.tdiv 64)) then
      (getI xs (↑(rkP xs (IntKind.i64.wrap (a.tdiv 64))) : Int)).bind fun (z : X.U.T C.t54) =>
        if a.tmod 64 < 0 then none
        else
          some
            ([],
              TV.v
                (Value.bool
                  (decide
                    (IntKind.u64.wrap
                        (↑(BitVec.ofInt IntKind.u64.bits (z.Bits.fdiv (2 ^ min (a.tmod 64).toNat IntKind.u64.bits)) &&&
                                BitVec.ofInt IntKind.u64.bits 1).toNat :
                          Int) =
                      1))))
    else some ([], TV.v (Value.bool false))
  else none := by kernel_rfl
def PHas (xs : List R54) (a : Int) : Prop := OkP xs ∧ a ≤ 9223372036854775807
noncomputable instance (xs : List R54) (a : Int) : Decidable (PHas xs a) := Classical.propDecidable _
noncomputable def sHas0 : Spc U := .of d81 (fun (xs, a) => PHas xs a) (fun _ => []) fun (xs, a) => .v (.bool (cond (decide (a < 0)) false (hasP xs a)))
theorem tdiv64 {a : Int} (h : 0 ≤ a) (h2 : a ≤ 9223372036854775807) : IntKind.i64.wrap (a.tdiv 64) = a / 64 := by
  rw [Int.tdiv_eq_ediv_of_nonneg h]
  exact wr18 (by omega) (by omega)
theorem o65 {xs : List R54} {a : Int} (h : PHas xs a) : evFn X E65 an0 lp0 Tryd.f11 [] [setT xs, .v (.int .i64 a)] (fun o v => some (o, v)) = some ([], .v (.bool (cond (decide (a < 0)) false (hasP xs a)))) := by
  obtain ⟨h1, h2⟩ := h
  rw [e65]
  by_cases h0 : a < 0
  · rw [decide_eq_true h0]
    rfl
  · rw [decide_eq_false h0, cond_false, cond_false, tdiv64 (by omega) h2, if_pos (show PreP xs (a / 64) from ⟨h1, by omega, by omega⟩)]
    unfold hasP hereP
    cases hq : xs[rkP xs (a / 64)]? with
    | none => rfl
    | some p =>
      have hb := h1.2 p (List.mem_of_getElem? hq)
      have hg : getI xs (rkP xs (a / 64) : Int) = some p := by
        unfold getI
        rw [if_pos (by omega), Int.toNat_natCast]
        exact hq
      dsimp only
      cases hd : decide (p.At = a / 64) with
      | false => rfl
      | true =>
        rw [cond_true, hg, Option.bind_some, if_neg (by rw [Int.tmod_eq_emod_of_nonneg (by omega)]; omega), Bool.true_and]
        show some ([], TV.v (Value.bool (decide (lastB (shB p.Bits a) = 1)))) = _
        rw [bit_eq (by omega) (by omega)]
theorem sHas0_ok : SpecOk Tryd.prog 11 sHas0 := by
  refine fn_ok X_ok mixed E65_ok an0 lp0 Tryd.func11 (by kernel_rfl) (by kernel_rfl) (lp0_ok (by kernel_rfl)) fun objs args x hx hp => ?_
  obtain ⟨xs, a⟩ := x
  obtain ⟨rfl, rfl⟩ := d81_ok hx
  exact o65 hp
noncomputable def sHas : Spc U := sHas0.wkA [.a [.l .t54], .no]
theorem sHas_ok : SpecOk Tryd.prog 11 sHas := sHas0_ok.wkA _
/-! ### A row's own copy -/
theorem e82 (xs : List R54) : evFn X E0 anO lp0 Tryd.f35 [] [nvL .t54 xs] (fun o v => some (o, v)) = if (0 + xs.length) * 16 ≤ 140737488355328 then some (nvR .t54 xs, nvF 0 xs) else none := by cases xs <;> kernel_rfl
def sCloP : Spc U := .of (dNv1 .t54) (fun xs => Sn xs.length) (fun xs => nvR .t54 xs) fun xs => nvF 0 xs
theorem sCloP_ok : SpecOk Tryd.prog 35 sCloP := by
  refine fn_ok X_ok mixed E0_ok anO lp0 Tryd.func35 (by kernel_rfl) (by kernel_rfl) (lp0_ok (by kernel_rfl)) fun objs args xs hx hp => ?_
  obtain ⟨rfl, rfl⟩ := dNv1_ok hx
  exact (e82 xs).trans (if_pos (by have : xs.length ≤ 1000000000 := hp; omega))
noncomputable def E60 : FuncId → Option (Spc U)
  | 11 => some sHas
  | 34 => some sFnd
  | 35 => some sCloP
  | 36 => some sInsP
  | _ => none
theorem E60_ok : ∀ f S, E60 f = some S → SpecOk Tryd.prog f S := fun f S h => by
  unfold E60 at h
  split at h
  · cases h; exact sHas_ok
  · cases h; exact sFnd_ok
  · cases h; exact sCloP_ok
  · cases h; exact sInsP_ok
  · cases h
theorem e60n (a : Int) : (evFn X E60 an0 lp0 Tryd.f10 [] [TV.agg [nlv], TV.v (Value.int IntKind.i64 a)]
  fun (o : List (TO X.U)) (v : TV X.U) => some (o, v)) =
  bif decide (a < 0) then some ([], TV.agg [TV.v (Value.slice none 0 0)])
else
  bif decide (1048576 ≤ a) then some ([], TV.agg [TV.v (Value.slice none 0 0)])
  else
    if PHas [] a then
      bif bif decide (a < 0) then false else hasP [] a then some ([], TV.agg [TV.v (Value.slice none 0 0)])
      else
        if PreP [] (IntKind.i64.wrap (a.tdiv 64)) then
          bif !hereP [] (IntKind.i64.wrap (a.tdiv 64)) then
            if PreN 1 (↑(rkP [] (IntKind.i64.wrap (a.tdiv 64))) : Int) then
              if
                  0 ≤ (↑(rkP [] (IntKind.i64.wrap (a.tdiv 64))) : Int) ∧
                    (↑(rkP [] (IntKind.i64.wrap (a.tdiv 64))) : Int) < (↑1 : Int) then
                [{ At := IntKind.i64.wrap (a.tdiv 64),
                          Bits := 0 }][(↑(rkP [] (IntKind.i64.wrap (a.tdiv 64))) : Int).toNat]?.bind
                  fun (y : X.U.T C.t54) =>
                  if a.tmod 64 < 0 then none
                  else
                    if
                        0 ≤ (↑(rkP [] (IntKind.i64.wrap (a.tdiv 64))) : Int) ∧
                          (↑(rkP [] (IntKind.i64.wrap (a.tdiv 64))) : Int) < (↑1 : Int) then
                      [{ At := IntKind.i64.wrap (a.tdiv 64),
                                Bits := 0 }][(↑(rkP [] (IntKind.i64.wrap (a.tdiv 64))) : Int).toNat]?.bind
                        fun (z : X.U.T C.t54) =>
                        some
                          ([],
                            TV.agg
                              [@TV.lst U C.t54
                                  ([{ At := IntKind.i64.wrap (a.tdiv 64), Bits := 0 }].set
                                    (↑(rkP [] (IntKind.i64.wrap (a.tdiv 64))) : Int).toNat
                                    { At := z.At,
                                      Bits :=
                                        IntKind.u64.wrap
                                          (↑(BitVec.ofInt IntKind.u64.bits y.Bits |||
                                                  BitVec.ofInt IntKind.u64.bits
                                                    (IntKind.u64.wrap
                                                      (1 * 2 ^ min (a.tmod 64).toNat IntKind.u64.bits))).toNat :
                                            Int) })])
                    else none
              else none
            else none
          else none
        else none
    else none := by kernel_rfl
theorem e60c (x : R54) (xs : List
  R54) (a : Int) : (evFn X E60 an0 lp0 Tryd.f10 [] [TV.agg [@TV.lst U C.t54 (x :: xs)], TV.v (Value.int IntKind.i64 a)]
  fun (o : List (TO X.U)) (v : TV X.U) => some (o, v)) =
  bif decide (a < 0) then some ([], TV.agg [@TV.lst U C.t54 (x :: xs)])
else
  bif decide (1048576 ≤ a) then some ([], TV.agg [@TV.lst U C.t54 (x :: xs)])
  else
    if PHas (x :: xs) a then
      bif bif decide (a < 0) then false else hasP (x :: xs) a then some ([], TV.agg [@TV.lst U C.t54 (x :: xs)])
      else
        if PreP (x :: xs) (IntKind.i64.wrap (a.tdiv 64)) then
          if Sn (x :: xs).length then
            bif !hereP (x :: xs) (IntKind.i64.wrap (a.tdiv 64)) then
              if PreIns (x :: xs).length 1 16 (↑(rkP (x :: xs) (IntKind.i64.wrap (a.tdiv 64))) : Int) then
                if
                    0 ≤ (↑(rkP (x :: xs) (IntKind.i64.wrap (a.tdiv 64))) : Int) ∧
                      (↑(rkP (x :: xs) (IntKind.i64.wrap (a.tdiv 64))) : Int) <
                        (↑(insL (x :: xs) [{ At := IntKind.i64.wrap (a.tdiv 64), Bits := 0 }]
                                (↑(rkP (x :: xs) (IntKind.i64.wrap (a.tdiv 64))) : Int)).length :
                          Int) then
                  (insL (x :: xs) [{ At := IntKind.i64.wrap (a.tdiv 64), Bits := 0 }]
                          (↑(rkP (x :: xs) (IntKind.i64.wrap (a.tdiv 64))) :
                            Int))[(↑(rkP (x :: xs) (IntKind.i64.wrap (a.tdiv 64))) : Int).toNat]?.bind
                    fun (y : X.U.T C.t54) =>
                    if a.tmod 64 < 0 then none
                    else
                      if
                          0 ≤ (↑(rkP (x :: xs) (IntKind.i64.wrap (a.tdiv 64))) : Int) ∧
                            (↑(rkP (x :: xs) (IntKind.i64.wrap (a.tdiv 64))) : Int) <
                              (↑(insL (x :: xs) [{ At := IntKind.i64.wrap (a.tdiv 64), Bits := 0 }]
                                      (↑(rkP (x :: xs) (IntKind.i64.wrap (a.tdiv 64))) : Int)).length :
                                Int) then
                        (insL (x :: xs) [{ At := IntKind.i64.wrap (a.tdiv 64), Bits := 0 }]
                                (↑(rkP (x :: xs) (IntKind.i64.wrap (a.tdiv 64))) :
                                  Int))[(↑(rkP (x :: xs) (IntKind.i64.wrap (a.tdiv 64))) : Int).toNat]?.bind
                          fun (z : X.U.T C.t54) =>
                          some
                            ([],
                              TV.agg
                                [@TV.lst U C.t54
                                    ((insL (x :: xs) [{ At := IntKind.i64.wrap (a.tdiv 64), Bits := 0 }]
                                          (↑(rkP (x :: xs) (IntKind.i64.wrap (a.tdiv 64))) : Int)).set
                                      (↑(rkP (x :: xs) (IntKind.i64.wrap (a.tdiv 64))) : Int).toNat
                                      { At := z.At,
                                        Bits :=
                                          IntKind.u64.wrap
                                            (↑(BitVec.ofInt IntKind.u64.bits y.Bits |||
                                                    BitVec.ofInt IntKind.u64.bits
                                                      (IntKind.u64.wrap
                                                        (1 * 2 ^ min (a.tmod 64).toNat IntKind.u64.bits))).toNat :
                                              Int) })])
                      else none
                else none
              else none
            else
              if
                  0 ≤ (↑(rkP (x :: xs) (IntKind.i64.wrap (a.tdiv 64))) : Int) ∧
                    (↑(rkP (x :: xs) (IntKind.i64.wrap (a.tdiv 64))) : Int) < (↑(x :: xs).length : Int) then
                (x :: xs)[(↑(rkP (x :: xs) (IntKind.i64.wrap (a.tdiv 64))) : Int).toNat]?.bind fun (y : X.U.T C.t54) =>
                  if a.tmod 64 < 0 then none
                  else
                    if
                        0 ≤ (↑(rkP (x :: xs) (IntKind.i64.wrap (a.tdiv 64))) : Int) ∧
                          (↑(rkP (x :: xs) (IntKind.i64.wrap (a.tdiv 64))) : Int) < (↑(x :: xs).length : Int) then
                      (x :: xs)[(↑(rkP (x :: xs) (IntKind.i64.wrap (a.tdiv 64))) : Int).toNat]?.bind
                        fun (z : X.U.T C.t54) =>
                        some
                          ([],
                            TV.agg
                              [@TV.lst U C.t54
                                  ((x :: xs).set (↑(rkP (x :: xs) (IntKind.i64.wrap (a.tdiv 64))) : Int).toNat
                                    { At := z.At,
                                      Bits :=
                                        IntKind.u64.wrap
                                          (↑(BitVec.ofInt IntKind.u64.bits y.Bits |||
                                                  BitVec.ofInt IntKind.u64.bits
                                                    (IntKind.u64.wrap
                                                      (1 * 2 ^ min (a.tmod 64).toNat IntKind.u64.bits))).toNat :
                                            Int) })])
                    else none
              else none
          else none
        else none
    else none := by kernel_rfl
/-- A number's bit laid over. -/
def orB (b a : Int) : Int := IntKind.u64.wrap ((BitVec.ofInt IntKind.u64.bits b ||| BitVec.ofInt IntKind.u64.bits (IntKind.u64.wrap (1 * 2 ^ min (a.tmod 64).toNat IntKind.u64.bits))).toNat : Nat)
/-- The parts of which one is to have the number. -/
def rowP (xs : List R54) (a : Int) : List R54 := cond (hereP xs (a / 64)) xs (insL xs [⟨a / 64, 0⟩] (rkP xs (a / 64)))
def putP (xs : List R54) (a : Int) : List R54 := match (rowP xs a)[rkP xs (a / 64)]? with
  | some y => (rowP xs a).set (rkP xs (a / 64)) ⟨y.At, orB y.Bits a⟩
  | none => xs
def withP (xs : List R54) (a : Int) : List R54 := cond (decide (a < 0) || decide (1048576 ≤ a) || hasP xs a) xs (putP xs a)
theorem hereP_lt {xs : List R54} {a : Int} (h : hereP xs a = true) : rkP xs a < xs.length := by
  unfold hereP at h
  split at h
  · rename_i p hp; exact (List.getElem?_eq_some_iff.1 hp).1
  · cases h
theorem rowP_len (xs : List R54) (a : Int) : rkP xs (a / 64) < (rowP xs a).length := by
  unfold rowP
  cases h : hereP xs (a / 64) with
  | true => exact hereP_lt h
  | false =>
    have := rkP_le xs (a / 64)
    unfold insL
    rw [cond_false, List.length_append, List.length_append, List.length_take, List.length_drop, Int.toNat_natCast, List.length_singleton]
    omega
def PWith (xs : List R54) : Prop := OkP xs
noncomputable instance (xs : List R54) : Decidable (PWith xs) := Classical.propDecidable _
theorem o60 {xs : List R54} {a : Int} (h1 : PWith xs) : evFn X E60 an0 lp0 Tryd.f10 [] [.agg [nvL .t54 xs], .v (.int .i64 a)] (fun o v => some (o, v)) = some ([], .agg [nvL .t54 (withP xs a)]) := by
  have h1 : OkP xs := h1
  have hlen := h1.len
  have hr := rkP_le xs (a / 64)
  have hrow := rowP_len xs a
  unfold withP
  by_cases h0 : a < 0
  · cases xs with
    | nil => refine (e60n a).trans ?_; rw [decide_eq_true h0]; rfl
    | cons x xs => refine (e60c x xs a).trans ?_; rw [decide_eq_true h0]; rfl
  by_cases hM : 1048576 ≤ a
  · cases xs with
    | nil => refine (e60n a).trans ?_; rw [decide_eq_false h0, decide_eq_true hM]; rfl
    | cons x xs => refine (e60c x xs a).trans ?_; rw [decide_eq_false h0, decide_eq_true hM]; rfl
  have h2 : a ≤ 9223372036854775807 := by omega
  have h : PHas xs a := ⟨h1, h2⟩
  have hpp : PreP xs (a / 64) := ⟨h1, by omega, by omega⟩
  have hsn : Sn xs.length := by unfold Sn; omega
  have ht : ¬ a.tmod 64 < 0 := by rw [Int.tmod_eq_emod_of_nonneg (by omega)]; omega
  obtain ⟨y, hy⟩ : ∃ y, (rowP xs a)[rkP xs (a / 64)]? = some y := ⟨_, List.getElem?_eq_getElem hrow⟩
  rw [decide_eq_false h0, decide_eq_false hM, Bool.false_or, Bool.false_or]
  cases hh : hasP xs a with
  | true =>
    cases xs with
    | nil => cases hh
    | cons x xs => refine (e60c x xs a).trans ?_; rw [decide_eq_false h0, decide_eq_false hM, cond_false, cond_false, cond_false, if_pos h, hh]; rfl
  | false =>
    have hput : putP xs a = (rowP xs a).set (rkP xs (a / 64)) ⟨y.At, orB y.Bits a⟩ := by unfold putP; rw [hy]
    rw [cond_false, hput]
    cases xs with
    | nil =>
      refine (e60n a).trans ?_
      have hr0 : rkP [] (a / 64) = 0 := rfl
      have hrw : rowP [] a = [⟨a / 64, 0⟩] := rfl
      rw [hrw, hr0] at hy
      rw [hrw, hr0]
      have hy : [(⟨a / 64, 0⟩ : R54)][0]? = some y := hy
      rw [decide_eq_false h0, decide_eq_false hM, cond_false, cond_false, cond_false, if_pos h, hh, cond_false, tdiv64 (by omega) h2, if_pos hpp, show hereP [] (a / 64) = false from rfl, Bool.not_false, cond_true, hr0, if_pos (show PreN 1 ((0 : Nat) : Int) from ⟨rfl, rfl⟩), if_pos (by decide)]
      show ([(⟨a / 64, 0⟩ : R54)][0]?).bind _ = _
      rw [hy, Option.bind_some, if_neg ht, if_pos (by decide)]
      show ([(⟨a / 64, 0⟩ : R54)][0]?).bind _ = _
      rw [hy, Option.bind_some]
      rfl
    | cons x xs =>
      refine (e60c x xs a).trans ?_
      rw [decide_eq_false h0, decide_eq_false hM, cond_false, cond_false, cond_false, if_pos h, hh, cond_false, tdiv64 (by omega) h2, if_pos hpp, if_pos hsn]
      have hnv : ∀ (l : List R54), 0 < l.length → nvL .t54 l = .lst .t54 l := fun l hl => by cases l with
        | nil => simp at hl
        | cons => rfl
      rw [hnv _ (by rw [List.length_set]; omega)]
      unfold rowP at hy hrow ⊢
      cases hw : hereP (x :: xs) (a / 64) with
      | true =>
        rw [hw, cond_true] at hy hrow
        rw [Bool.not_true, cond_false, cond_true, if_pos ⟨by omega, by omega⟩, Int.toNat_natCast, hy, Option.bind_some, if_neg ht, if_pos ⟨by omega, by omega⟩, Option.bind_some]
        rfl
      | false =>
        rw [hw, cond_false] at hy hrow
        rw [Bool.not_false, cond_true, cond_false, if_pos (show PreIns (x :: xs).length 1 16 (rkP (x :: xs) (a / 64) : Int) from ⟨by omega, by omega, rfl, by omega⟩), if_pos ⟨by omega, by omega⟩, Int.toNat_natCast, hy, Option.bind_some, if_neg ht, if_pos ⟨by omega, by omega⟩, Option.bind_some]
        rfl
def d60 (objs : List (TO U)) (args : List (TV U)) : Option (List R54 × Int) := match objs, args with
  | [], [.agg [v], .v (.int .i64 a)] => (tkL .t54 v).map fun xs => (xs, a)
  | _, _ => none
theorem d60_ok {objs : List (TO U)} {args : List (TV U)} {xs : List R54} {a : Int} (h : d60 objs args = some (xs, a)) : objs = [] ∧ args = [.agg [nvL .t54 xs], .v (.int .i64 a)] := by
  unfold d60 at h
  split at h <;> try (cases h; done)
  obtain ⟨ys, h1, h2⟩ := Option.map_eq_some_iff.1 h
  cases h2
  exact ⟨rfl, by rw [tkL_ok h1]⟩
def cP (l : List R54) : List R54 := l.headD ⟨0, 0⟩ :: l.tail
theorem cP_eq {l : List R54} (h : l.isEmpty = false) : cP l = l := by cases l with
  | nil => cases h
  | cons => rfl
theorem nvP_e {l : List R54} (h : l.isEmpty = true) : nvL .t54 l = nlv := by cases l with
  | nil => rfl
  | cons => cases h
theorem nvP_c {l : List R54} (h : l.isEmpty = false) : nvL .t54 l = .lst .t54 (cP l) := by cases l with
  | nil => cases h
  | cons => rfl
noncomputable def sWith : Spc U := .of2 d60 (fun (xs, a) => PWith xs) (fun (xs, a) => (withP xs a).isEmpty) (fun _ => []) (fun _ => .agg [nlv]) (fun _ => []) fun (xs, a) => .agg [.lst .t54 (cP (withP xs a))]
theorem sWith_ok : SpecOk Tryd.prog 10 sWith := by
  refine fn_ok2 X_ok mixed E60_ok an0 lp0 Tryd.func10 (by kernel_rfl) (by kernel_rfl) (lp0_ok (by kernel_rfl)) fun objs args x hx hp => ?_
  obtain ⟨xs, a⟩ := x
  obtain ⟨rfl, rfl⟩ := d60_ok hx
  refine (o60 hp).trans ?_
  dsimp only
  cases hq : (withP xs a).isEmpty with
  | true => rw [nvP_e hq]; rfl
  | false => rw [nvP_c hq]; rfl
end Go.Proofs.YtmcflglkfgnbbaaDoor.Bt

/- Sets by parts: which numbers are in one with a number. Plain. -/
namespace Go.Proofs.YtmcflglkfgnbbaaDoor.Bt
open Go Go.RowKit Go.Proofs.YtmcflglkfgnbbaaDoor.Eng Go.Proofs.YtmcflglkfgnbbaaDoor.Nd
set_option linter.unusedVariables false
theorem rk_at {ps : List R54} (h : RiseP ps) {i : Nat} {p : R54} (hp : ps[i]? = some p) : rkP ps p.At = i := by
  have h1 := rkP_ge (a := p.At) hp (by omega)
  by_cases e : rkP ps p.At = i
  · exact e
  · exfalso
    have hi : i < ps.length := (List.getElem?_eq_some_iff.1 hp).1
    obtain ⟨q, hq⟩ : ∃ q, ps[rkP ps p.At]? = some q := ⟨_, List.getElem?_eq_getElem (by omega)⟩
    have hlt : q.At < p.At := by
      have := List.pairwise_iff_getElem.1 h (rkP ps p.At) i (by omega) hi (by omega)
      rw [(List.getElem?_eq_some_iff.1 hq).2, (List.getElem?_eq_some_iff.1 hp).2] at this
      exact this
    have := rkP_lt h hq hlt
    omega
theorem has_iff {ps : List R54} (h : RiseP ps) (n : Int) : hasP ps n = true ↔ ∃ p ∈ ps, p.At = n / 64 ∧ bitP p.Bits (n % 64).toNat = true := by
  unfold hasP
  constructor
  · intro hh
    split at hh
    · rename_i p hp
      rw [Bool.and_eq_true] at hh
      exact ⟨p, List.mem_of_getElem? hp, of_decide_eq_true hh.1, hh.2⟩
    · cases hh
  · rintro ⟨p, hp, e, hb⟩
    obtain ⟨i, hi, hpi⟩ := List.mem_iff_getElem.1 hp
    have hpi : ps[i]? = some p := by rw [List.getElem?_eq_getElem hi, hpi]
    rw [← e, rk_at h hpi, hpi]
    dsimp only
    rw [decide_eq_true rfl, Bool.true_and]
    exact hb
theorem emod_small (x : Nat) (h : x < 18446744073709551616) : (x : Int) % (2 ^ 64) = x := by omega
theorem orB_nat (b n : Nat) (hb : b < 18446744073709551616) : orB (b : Int) (n : Int) = ((b ||| 2 ^ (n % 64) : Nat) : Int) ∧ (b ||| 2 ^ (n % 64)) < 18446744073709551616 := by
  have hlt : n % 64 < 64 := Nat.mod_lt _ (by decide)
  have hp : 2 ^ (n % 64) < 2 ^ 64 := Nat.pow_lt_pow_right (by decide) hlt
  have hor : (b ||| 2 ^ (n % 64)) < 2 ^ 64 := Nat.or_lt_two_pow (by simpa using hb) hp
  have e64 : (2 : Nat) ^ 64 = 18446744073709551616 := by decide
  refine ⟨?_, by rw [← e64]; exact hor⟩
  have e1 : ((n : Int).tmod 64).toNat = n % 64 := by
    rw [Int.tmod_eq_emod_of_nonneg (by omega)]
    omega
  have e2 : min (n % 64) IntKind.u64.bits = n % 64 := Nat.min_eq_left (by show n % 64 ≤ 64; omega)
  have e3 : IntKind.u64.wrap (1 * 2 ^ (n % 64)) = ((2 ^ (n % 64) : Nat) : Int) := by
    have : ((1 : Int) * 2 ^ (n % 64)) = ((2 ^ (n % 64) : Nat) : Int) := by rw [Int.one_mul, Int.natCast_pow]; rfl
    rw [this]
    exact emod_small _ (by rw [← e64]; exact hp)
  have e4 : ∀ x : Nat, x < 2 ^ 64 → (BitVec.ofInt IntKind.u64.bits (x : Int)).toNat = x := fun x hx => by
    rw [BitVec.toNat_ofInt]
    show ((x : Int) % (2 ^ 64)).toNat = _
    rw [emod_small x (by rw [← e64]; exact hx)]
    rfl
  unfold orB
  rw [e1, e2, e3, BitVec.toNat_or, e4 b (by rw [e64]; exact hb), e4 _ hp]
  exact emod_small _ (by rw [← e64]; exact hor)
theorem orB_ok {b n : Int} (h0 : 0 ≤ b) (h1 : b < 18446744073709551616) (hn : 0 ≤ n) : 0 < orB b n ∧ orB b n < 18446744073709551616 ∧ ∀ i, i < 64 → bitP (orB b n) i = (bitP b i || decide (i = (n % 64).toNat)) := by
  obtain ⟨b, rfl⟩ := Int.eq_ofNat_of_zero_le h0
  obtain ⟨n, rfl⟩ := Int.eq_ofNat_of_zero_le hn
  obtain ⟨e, hlt⟩ := orB_nat b n (by omega)
  have hen : ((n : Int) % 64).toNat = n % 64 := by omega
  have hpos : 0 < b ||| 2 ^ (n % 64) := by
    have : (b ||| 2 ^ (n % 64)).testBit (n % 64) = true := by rw [Nat.testBit_or, Nat.testBit_two_pow_self, Bool.or_true]
    rcases Nat.eq_zero_or_pos (b ||| 2 ^ (n % 64)) with h | h
    · rw [h, Nat.zero_testBit] at this; cases this
    · exact h
  rw [e, hen]
  refine ⟨by omega, by omega, fun i hi => ?_⟩
  unfold bitP
  rw [Int.toNat_natCast, Int.toNat_natCast, Nat.testBit_or, Nat.testBit_two_pow]
  congr 1
  apply Bool.eq_iff_iff.2
  rw [decide_eq_true_iff, decide_eq_true_iff]
  exact eq_comm
/-- A set in which a number's part is written. -/
theorem putP_form {ps : List R54} (h : OkP ps) (n : Int) : ∃ (L R : List R54) (b : Int), putP ps n = L ++ ⟨n / 64, orB b n⟩ :: R ∧ (ps = L ++ ⟨n / 64, b⟩ :: R ∨ ps = L ++ R ∧ b = 0) ∧ (∀ p ∈ L, p.At < n / 64) ∧ ∀ p ∈ R, n / 64 < p.At := by
  obtain ⟨h1, h2⟩ := h
  have hrle := rkP_le ps (n / 64)
  have hL : ∀ p ∈ ps.take (rkP ps (n / 64)), p.At < n / 64 := fun p hp => by
    obtain ⟨i, hi, hpi⟩ := List.mem_iff_getElem.1 hp
    rw [List.length_take] at hi
    rw [List.getElem_take] at hpi
    by_cases hlt : p.At < n / 64
    · exact hlt
    · have := rkP_ge (ps := ps) (a := n / 64) (i := i) (p := p) (by rw [List.getElem?_eq_getElem (by omega), hpi]) hlt
      omega
  have hge : ∀ i p, ps[i]? = some p → rkP ps (n / 64) ≤ i → n / 64 ≤ p.At := fun i p hp hi => by
    by_cases hlt : p.At < n / 64
    · have := rkP_lt h1 hp hlt
      omega
    · omega
  cases hh : hereP ps (n / 64) with
  | true =>
    have hlt := hereP_lt hh
    obtain ⟨y, hy⟩ : ∃ y, ps[rkP ps (n / 64)]? = some y := ⟨_, List.getElem?_eq_getElem hlt⟩
    have hyA : y.At = n / 64 := by
      unfold hereP at hh
      rw [hy] at hh
      exact of_decide_eq_true hh
    have hrow : rowP ps n = ps := by unfold rowP; rw [hh]; rfl
    have hsplit : ps = ps.take (rkP ps (n / 64)) ++ y :: ps.drop (rkP ps (n / 64) + 1) := by
      have e := List.drop_eq_getElem_cons hlt
      rw [(List.getElem?_eq_some_iff.1 hy).2] at e
      rw [← e, List.take_append_drop]
    refine ⟨ps.take (rkP ps (n / 64)), ps.drop (rkP ps (n / 64) + 1), y.Bits, ?_, .inl ?_, hL, fun p hp => ?_⟩
    · unfold putP
      rw [hrow, hy]
      dsimp only
      rw [hyA, List.set_eq_take_append_cons_drop, if_pos hlt]
    · have hy2 : (⟨n / 64, y.Bits⟩ : R54) = y := by rw [← hyA]
      rw [hy2]
      exact hsplit
    · obtain ⟨i, hi, hpi⟩ := List.mem_iff_getElem.1 hp
      rw [List.length_drop] at hi
      rw [List.getElem_drop] at hpi
      have := List.pairwise_iff_getElem.1 h1 (rkP ps (n / 64)) (rkP ps (n / 64) + 1 + i) hlt (by omega) (by omega)
      rw [hpi, (List.getElem?_eq_some_iff.1 hy).2, hyA] at this
      exact this
  | false =>
    have hrow : rowP ps n = ps.take (rkP ps (n / 64)) ++ ⟨n / 64, 0⟩ :: ps.drop (rkP ps (n / 64)) := by unfold rowP insL; rw [hh]; rfl
    have hget : (rowP ps n)[rkP ps (n / 64)]? = some ⟨n / 64, 0⟩ := by
      rw [hrow, List.getElem?_append_right (by rw [List.length_take]; omega), List.length_take, Nat.min_eq_left hrle, Nat.sub_self]
      rfl
    refine ⟨ps.take (rkP ps (n / 64)), ps.drop (rkP ps (n / 64)), 0, ?_, .inr ⟨(List.take_append_drop _ _).symm, rfl⟩, hL, fun p hp => ?_⟩
    · unfold putP
      rw [hget]
      dsimp only
      rw [hrow, List.set_append_right _ _ (by rw [List.length_take]; omega), List.length_take, Nat.min_eq_left hrle, Nat.sub_self]
      rfl
    · obtain ⟨i, hi, hpi⟩ := List.mem_iff_getElem.1 hp
      rw [List.length_drop] at hi
      rw [List.getElem_drop] at hpi
      have hp' : ps[rkP ps (n / 64) + i]? = some p := by rw [List.getElem?_eq_getElem (by omega), hpi]
      have hle := hge _ p hp' (by omega)
      by_cases e : p.At = n / 64
      · exfalso
        have := rk_at h1 hp'
        rw [e] at this
        unfold hereP at hh
        have hi0 : i = 0 := by omega
        subst hi0
        rw [Nat.add_zero] at hp'
        rw [hp'] at hh
        dsimp only at hh
        rw [decide_eq_true e] at hh
        cases hh
      · omega
theorem putP_ok {ps : List R54} (h : OkP ps) {n : Int} (h0 : 0 ≤ n) (hM : n < 1048576) : OkP (putP ps n) ∧ ∀ m, 0 ≤ m → (hasP (putP ps n) m = true ↔ hasP ps m = true ∨ m = n) := by
  obtain ⟨L, R, b, e1, e2, e3, e4⟩ := putP_form h n
  have hb : 0 ≤ b ∧ b < 18446744073709551616 := by
    rcases e2 with e2 | ⟨_, rfl⟩
    · have := h.2 ⟨n / 64, b⟩ (by rw [e2]; simp)
      exact ⟨by have := this.2.1; simp at this; omega, this.2.2⟩
    · decide
  obtain ⟨o1, o2, o3⟩ := orB_ok hb.1 hb.2 h0
  have hsub : ∀ p, p ∈ L ∨ p ∈ R → p ∈ ps := fun p hp => by
    rcases e2 with e2 | ⟨e2, _⟩ <;> rw [e2] <;> rcases hp with hp | hp <;> simp [hp]
  have hok : OkP (putP ps n) := by
    rw [e1]
    refine ⟨?_, fun p hp => ?_⟩
    · unfold RiseP
      rw [List.pairwise_append]
      have hps := h.1
      unfold RiseP at hps
      have hLR : L.Pairwise (fun a b : R54 => a.At < b.At) ∧ R.Pairwise (fun a b : R54 => a.At < b.At) := by
        rcases e2 with e2 | ⟨e2, _⟩ <;> rw [e2] at hps
        · have := List.pairwise_append.1 hps
          exact ⟨this.1, (List.pairwise_cons.1 this.2.1).2⟩
        · have := List.pairwise_append.1 hps
          exact ⟨this.1, this.2.1⟩
      refine ⟨hLR.1, List.pairwise_cons.2 ⟨fun q hq => e4 q hq, hLR.2⟩, fun p hp q hq => ?_⟩
      rcases List.mem_cons.1 hq with rfl | hq
      · exact e3 p hp
      · have := e3 p hp; have := e4 q hq; omega
    · rw [List.mem_append, List.mem_cons] at hp
      rcases hp with hp | rfl | hp
      · exact h.2 p (hsub p (.inl hp))
      · exact ⟨⟨by show 0 ≤ n / 64; omega, by show n / 64 < 16384; omega⟩, o1, o2⟩
      · exact h.2 p (hsub p (.inr hp))
  refine ⟨hok, fun m hm => ?_⟩
  rw [has_iff hok.1, has_iff h.1]
  have hm64 : (m % 64).toNat < 64 := by omega
  have hn64 : (n % 64).toNat < 64 := by omega
  constructor
  · rintro ⟨p, hp, k1, k2⟩
    rw [e1, List.mem_append, List.mem_cons] at hp
    rcases hp with hp | rfl | hp
    · exact .inl ⟨p, hsub p (.inl hp), k1, k2⟩
    · dsimp only at k1 k2
      rw [o3 _ hm64, Bool.or_eq_true, decide_eq_true_iff] at k2
      rcases k2 with k2 | k2
      · rcases e2 with e2 | ⟨_, rfl⟩
        · exact .inl ⟨⟨n / 64, b⟩, by rw [e2]; simp, k1, k2⟩
        · exfalso
          unfold bitP at k2
          rw [show (0 : Int).toNat = 0 from rfl, Nat.zero_testBit] at k2
          cases k2
      · exact .inr (by omega)
    · exact .inl ⟨p, hsub p (.inr hp), k1, k2⟩
  · rintro (⟨p, hp, k1, k2⟩ | rfl)
    · rcases e2 with e2 | ⟨e2, _⟩
      · rw [e2, List.mem_append, List.mem_cons] at hp
        rcases hp with hp | rfl | hp
        · exact ⟨p, by rw [e1]; simp [hp], k1, k2⟩
        · exact ⟨⟨n / 64, orB b n⟩, by rw [e1]; simp, k1, by show bitP (orB b n) _ = true; rw [o3 _ hm64]; rw [Bool.or_eq_true]; exact .inl k2⟩
        · exact ⟨p, by rw [e1]; simp [hp], k1, k2⟩
      · rw [e2, List.mem_append] at hp
        rcases hp with hp | hp
        · exact ⟨p, by rw [e1]; simp [hp], k1, k2⟩
        · exact ⟨p, by rw [e1]; simp [hp], k1, k2⟩
    · exact ⟨⟨m / 64, orB b m⟩, by rw [e1]; simp, rfl, by show bitP (orB b m) _ = true; rw [o3 _ hm64]; simp⟩
/-- May a number be in a set? -/
def mayP (n : Int) : Prop := 0 ≤ n ∧ n < 1048576
theorem withP_ok {ps : List R54} (h : OkP ps) (n : Int) : OkP (withP ps n) ∧ ∀ m, 0 ≤ m → (hasP (withP ps n) m = true ↔ hasP ps m = true ∨ (m = n ∧ mayP n)) := by
  unfold withP mayP
  by_cases h0 : n < 0
  · rw [decide_eq_true h0]
    exact ⟨h, fun m hm => ⟨.inl, fun h => h.elim id fun h => by omega⟩⟩
  · rw [decide_eq_false h0]
    by_cases hM : 1048576 ≤ n
    · rw [decide_eq_true hM]
      exact ⟨h, fun m hm => ⟨.inl, fun h => h.elim id fun h => by omega⟩⟩
    · rw [decide_eq_false hM, Bool.or_self, Bool.false_or]
      cases hh : hasP ps n with
      | true =>
        exact ⟨h, fun m hm => ⟨.inl, fun k => k.elim id fun k => by rw [k.1]; exact hh⟩⟩
      | false =>
        rw [cond_false]
        obtain ⟨h1, h2⟩ := putP_ok h (n := n) (by omega) (by omega)
        exact ⟨h1, fun m hm => (h2 m hm).trans ⟨fun k => k.elim .inl fun k => .inr ⟨k, by omega, by omega⟩, fun k => k.elim .inl fun k => .inr k.1⟩⟩
end Go.Proofs.YtmcflglkfgnbbaaDoor.Bt

/- Sets as the document has them: lists that rise. -/
namespace Go.Proofs.YtmcflglkfgnbbaaDoor.Bt
open Go Go.RowKit Go.Proofs.YtmcflglkfgnbbaaDoor.Eng Go.Proofs.YtmcflglkfgnbbaaDoor.Nd
set_option linter.unusedVariables false
set_option linter.unusedSimpArgs false
set_option maxRecDepth 20000
def an94 : Ann := ⟨fun | 0 => 35 | _ => 0, fun | 0 => 16 | _ => 0, fun _ => [], false⟩
def an84 : Ann := ⟨fun | 0 => 227 | _ => 0, fun | 0 => 114 | _ => 0, fun _ => [], false⟩
def g94_S0 (l : List
  Int) (n : Int) (v2 : Int) : TS U := mkS 18
  [(0, TV.lst C.i64 l), (1, TV.v (Value.int IntKind.i64 n)), (5, TV.v (Value.int IntKind.i64 v2))] [] 0
theorem g94_e0 (lp : Lp
  U) (l : List Int) (n : Int) (N : Nat) (v2 : Int) : fnLoop X E0 an94 lp Tryd.f12 0 N.succ (g94_S0 l n v2) =
  bif decide (v2 < (↑l.length : Int)) then
  (getI l v2).bind fun (z : X.U.T C.i64) =>
    bif decide (z = n) then some (Exit.ret, mkS 18 [(4, TV.v (Value.bool true))] [] 0)
    else fnLoop X E0 an94 lp Tryd.f12 0 N (g94_S0 l n (IntKind.i64.wrap (v2 + 1)))
else some (Exit.exit 0, mkS 18 [] [] 0) := by kernel_rfl
theorem rounds94 (lp : Lp U) (l : List Int) (n : Int) (hl : l.length ≤ 1000000000) : ∀ (m i : Nat), i + m = l.length → fnLoop X E0 an94 lp Tryd.f12 0 (m + 1) (g94_S0 l n i) = cond (decide (n ∈ l.drop i)) (some (.ret, mkS 18 [(4, .v (.bool true))] [] 0)) (some (.exit 0, mkS 18 [] [] 0)) := by
  intro m
  induction m with
  | zero => intro i hi; rw [g94_e0, decide_eq_false (by omega), List.drop_eq_nil_of_le (by omega)]; rfl
  | succ m ih =>
    intro i hi
    obtain ⟨z, hz, hz2⟩ := getE (l := l) (v := (i : Int)) (by omega) (by omega)
    have hz3 : l[i]? = some z := hz2
    have hd : l.drop i = z :: l.drop (i + 1) := by
      rw [List.drop_eq_getElem_cons (by omega), (List.getElem?_eq_some_iff.1 hz3).2]
    rw [g94_e0, decide_eq_true (by omega), hz, cond_true, Option.bind_some, hd]
    by_cases e : z = n
    · rw [decide_eq_true e, cond_true, decide_eq_true (by rw [e]; exact List.mem_cons_self), cond_true]
      all_goals rfl
    · rw [decide_eq_false e, cond_false, wr (a := (i : Int) + 1) (by omega) (by omega)]
      have : decide (n ∈ z :: l.drop (i + 1)) = decide (n ∈ l.drop (i + 1)) := by
        congr 1
        apply propext
        rw [List.mem_cons]
        exact ⟨fun h => h.elim (fun h => absurd h.symm e) id, .inr⟩
      rw [this]
      exact ih (i + 1) (by omega)
/-- Not too many numbers. -/
def Pl (n : Nat) : Prop := n ≤ 1000000
instance (n : Nat) : Decidable (Pl n) := by unfold Pl; infer_instance
def dl94 (s : TS U) : Option (List Int × Int × Int) := match told s 18 [0, 1, 5] 0, s.objs with
  | some [a0, a1, a2], [] =>
    match a0 with
    | .lst .i64 l =>
      match a1 with
      | .v (.int .i64 n) =>
        match a2 with
        | .v (.int .i64 i) =>
          some (l, n, i)
        | _ => none
      | _ => none
    | _ => none
  | _, _ => none
theorem dl94_ok {s : TS U} {l : List Int} {n : Int} {i : Int} (h : dl94 s = some (l, n, i)) : s = mkS (U := U) 18 ([0, 1, 5].zip ([.lst .i64 l, .v (.int .i64 n), .v (.int .i64 i)] : List (TV U))) ([] : List (TO U)) 0 := by
  unfold dl94 at h
  split at h <;> try (cases h; done)
  rename_i ht ho
  have hs := told_ok ht
  rw [ho] at hs
  repeat' split at h
  all_goals first | (cases h; done) | (cases h; exact hs)
def P94 (n : Nat) (i : Int) : Prop := Pl n ∧ i = 0
instance (n : Nat) (i : Int) : Decidable (P94 n i) := by unfold P94; infer_instance
def memI (l : List Int) (n : Int) : Bool := decide (n ∈ l)
def lc94 : LC U := .of2 dl94 (fun (l, n, i) => P94 l.length i) (fun (l, n, i) => memI l n) .ret (fun _ => mkS 18 [(4, .v (.bool true))] [] 0) (.exit 0) fun _ => mkS 18 [] [] 0
def lp94 : Lp U := lpL [(0, lc94)]
theorem lp94_ok : ∀ c, Tryd.f12.body = some c → LpOk X E0 an94 lp94 (loops c 0) := lpL_ok (by kernel_rfl) fun b L hm st p hs => by
  cases hm with
  | head =>
    obtain ⟨⟨l, n, i⟩, hx, ⟨h, rfl⟩, rfl⟩ := LC.of2_some hs
    obtain rfl := dl94_ok hx
    have h : l.length ≤ 1000000 := h
    refine ⟨_, (rounds94 _ l n (by omega) l.length 0 (Nat.zero_add _)).trans ?_⟩
    rw [List.drop_zero]
    show cond (memI l n) _ _ = some (cond (memI l n) _ _)
    cases memI l n <;> rfl
  | tail _ hm => cases hm
theorem e94 (l : List
  Int) (n : Int) : (evFn X E0 an94 lp94 Tryd.f12 [] [TV.lst C.i64 l, TV.v (Value.int IntKind.i64 n)]
  fun (o : List (TO X.U)) (v : TV X.U) => some (o, v)) =
  if P94 l.length 0 then bif memI l n then some ([], TV.v (Value.bool true)) else some ([], TV.v (Value.bool false))
else none := by kernel_rfl
def dLn (objs : List (TO U)) (args : List (TV U)) : Option (List Int × Int) := match objs, args with
  | [], [a0, a1] =>
    match a0 with
    | .lst .i64 l =>
      match a1 with
      | .v (.int .i64 n) =>
        some (l, n)
      | _ => none
    | _ => none
  | _, _ => none
theorem dLn_ok {objs : List (TO U)} {args : List (TV U)} {l : List Int} {n : Int} (h : dLn objs args = some (l, n)) : objs = [] ∧ args = [.lst .i64 l, .v (.int .i64 n)] := by
  unfold dLn at h
  repeat' split at h
  all_goals first | (cases h; done) | (cases h; exact ⟨rfl, rfl⟩)
def sMem0 : Spc U := .of dLn (fun (l, n) => Pl l.length) (fun _ => []) fun (l, n) => .v (.bool (memI l n))
theorem sMem0_ok : SpecOk Tryd.prog 12 sMem0 := by
  refine fn_ok X_ok mixed E0_ok an94 lp94 Tryd.func12 (by kernel_rfl) (by kernel_rfl) lp94_ok fun objs args x hx hp => ?_
  obtain ⟨l, n⟩ := x
  obtain ⟨rfl, rfl⟩ := dLn_ok hx
  refine (e94 l n).trans ?_
  rw [if_pos (show P94 l.length 0 from ⟨hp, rfl⟩)]
  show _ = some ([], TV.v (Value.bool (memI l n)))
  cases memI l n <;> rfl
def sMem : Spc U := sMem0.wkA [.l .i64, .no]
theorem sMem_ok : SpecOk Tryd.prog 12 sMem := sMem0_ok.wkA _
def E84 : FuncId → Option (Spc U)
  | 12 => some sMem
  | _ => none
theorem E84_ok : ∀ f S, E84 f = some S → SpecOk Tryd.prog f S := fun f S h => by
  unfold E84 at h
  split at h
  · cases h; exact sMem_ok
  · cases h
/-- With one number more, ahead of the first one that is greater. -/
def insR : List Int → Int → List Int
  | [], n => [n]
  | z :: l, n => cond (decide (n < z)) (n :: z :: l) (z :: insR l n)
def S84 (l : List Int) (n : Int) (xs : List Int) (d : Bool) (i : Int) : TS U := mkS 55 [(0, .lst .i64 l), (1, .v (.int .i64 n)), (5, .full 0), (6, .v (.bool d)), (7, .v (.int .i64 i))] [.row .i64 xs false] 0
theorem r84 (lp : Lp
  U) (N : Nat) (l : List
  Int) (n : Int) (xs : List Int) (d : Bool) (i : Int) : (fnLoop X E84 an84 lp Tryd.f14 0 N.succ (S84 l n xs d i)) =
  bif decide (i < (↑l.length : Int)) then
  bif !d then
    (getI l i).bind fun (z : X.U.T C.i64) =>
      bif decide (n < z) then
        if (xs.length + 1) * 8 ≤ 140737488355328 then
          (getI l i).bind fun (z : X.U.T C.i64) =>
            if ((xs ++ [n]).length + 1) * 8 ≤ 140737488355328 then
              fnLoop X E84 an84 lp Tryd.f14 0 N
                (mkS 55
                  [(0, TV.lst C.i64 l), (1, TV.v (Value.int IntKind.i64 n)), (5, TV.full 0),
                    (6, TV.v (Value.bool true)), (7, TV.v (Value.int IntKind.i64 (IntKind.i64.wrap (i + 1))))]
                  [TO.row C.i64 (xs ++ [n] ++ [z]) false] 0)
            else none
        else none
      else
        (getI l i).bind fun (z : X.U.T C.i64) =>
          if (xs.length + 1) * 8 ≤ 140737488355328 then
            fnLoop X E84 an84 lp Tryd.f14 0 N
              (mkS 55
                [(0, TV.lst C.i64 l), (1, TV.v (Value.int IntKind.i64 n)), (5, TV.full 0), (6, TV.v (Value.bool d)),
                  (7, TV.v (Value.int IntKind.i64 (IntKind.i64.wrap (i + 1))))]
                [TO.row C.i64 (xs ++ [z]) false] 0)
          else none
  else
    (getI l i).bind fun (z : X.U.T C.i64) =>
      if (xs.length + 1) * 8 ≤ 140737488355328 then
        fnLoop X E84 an84 lp Tryd.f14 0 N
          (mkS 55
            [(0, TV.lst C.i64 l), (1, TV.v (Value.int IntKind.i64 n)), (5, TV.full 0), (6, TV.v (Value.bool d)),
              (7, TV.v (Value.int IntKind.i64 (IntKind.i64.wrap (i + 1))))]
            [TO.row C.i64 (xs ++ [z]) false] 0)
      else none
else
  some
    (Exit.exit 0,
      mkS 55 [(1, TV.v (Value.int IntKind.i64 n)), (5, TV.full 0), (6, TV.v (Value.bool d))] [TO.row C.i64 xs false]
        0) := by kernel_rfl
def Z84 (n : Int) (xs : List Int) (d : Bool) : TS U := mkS 55 [(1, .v (.int .i64 n)), (5, .full 0), (6, .v (.bool d))] [.row .i64 xs false] 0
def gtI (l : List Int) (n : Int) : Bool := l.any fun z => decide (n < z)
theorem insR_none : ∀ {l : List Int} {n : Int}, gtI l n = false → insR l n = l ++ [n]
  | [], n, _ => rfl
  | z :: l, n, h => by
    unfold gtI at h
    rw [List.any_cons, Bool.or_eq_false_iff] at h
    unfold insR
    rw [h.1, cond_false, insR_none (l := l) h.2]
    rfl
theorem drop_get {l : List Int} {i : Nat} {z : Int} (h : l[i]? = some z) : l.drop i = z :: l.drop (i + 1) := by
  rw [List.drop_eq_getElem_cons (List.getElem?_eq_some_iff.1 h).1, (List.getElem?_eq_some_iff.1 h).2]
theorem rounds84t (lp : Lp U) (l : List Int) (n : Int) (hl : l.length ≤ 1000000) : ∀ (m i : Nat) (xs : List Int), i + m = l.length → xs.length ≤ i + 1 → fnLoop X E84 an84 lp Tryd.f14 0 (m + 1) (S84 l n xs true i) = some (.exit 0, Z84 n (xs ++ l.drop i) true) := by
  intro m
  induction m with
  | zero => intro i xs hi hx; rw [r84, decide_eq_false (by omega), List.drop_eq_nil_of_le (by omega), List.append_nil]; rfl
  | succ m ih =>
    intro i xs hi hx
    obtain ⟨z, hz, hz2⟩ := getE (l := l) (v := (i : Int)) (by omega) (by omega)
    rw [r84, decide_eq_true (by omega), hz, cond_true, Bool.not_true, cond_false, Option.bind_some, if_pos (by omega), wr (a := (i : Int) + 1) (by omega) (by omega), drop_get (show l[i]? = some z from hz2)]
    have := ih (i + 1) (xs ++ [z]) (by omega) (by rw [List.length_append, List.length_singleton]; omega)
    rw [List.append_assoc] at this
    exact this
theorem rounds84f (lp : Lp U) (l : List Int) (n : Int) (hl : l.length ≤ 1000000) : ∀ (m i : Nat) (xs : List Int), i + m = l.length → xs.length ≤ i → fnLoop X E84 an84 lp Tryd.f14 0 (m + 1) (S84 l n xs false i) = some (.exit 0, Z84 n (xs ++ cond (gtI (l.drop i) n) (insR (l.drop i) n) (l.drop i)) (gtI (l.drop i) n)) := by
  intro m
  induction m with
  | zero => intro i xs hi hx; rw [r84, decide_eq_false (by omega), List.drop_eq_nil_of_le (by omega)]; show _ = some (_, Z84 n (xs ++ []) false); rw [List.append_nil]; rfl
  | succ m ih =>
    intro i xs hi hx
    obtain ⟨z, hz, hz2⟩ := getE (l := l) (v := (i : Int)) (by omega) (by omega)
    have hz3 : l[i]? = some z := hz2
    rw [r84, decide_eq_true (by omega), hz, cond_true, Bool.not_false, cond_true, Option.bind_some]
    by_cases hg : n < z
    · rw [decide_eq_true hg, cond_true, if_pos (by omega), Option.bind_some, if_pos (by rw [List.length_append, List.length_singleton]; omega), wr (a := (i : Int) + 1) (by omega) (by omega)]
      have := rounds84t lp l n hl m (i + 1) (xs ++ [n] ++ [z]) (by omega) (by rw [List.length_append, List.length_append, List.length_singleton, List.length_singleton]; omega)
      have e1 : gtI (l.drop i) n = true := by
        unfold gtI
        rw [drop_get hz3, List.any_cons, decide_eq_true hg]
        rfl
      have e2 : insR (l.drop i) n = n :: z :: l.drop (i + 1) := by
        rw [drop_get hz3]
        unfold insR
        rw [decide_eq_true hg]
        rfl
      have e3 : xs ++ [n] ++ [z] ++ l.drop (i + 1) = xs ++ n :: z :: l.drop (i + 1) := by simp
      rw [e1, cond_true, e2]
      rw [e3] at this
      exact this
    · rw [decide_eq_false hg, cond_false, Option.bind_some, if_pos (by omega), wr (a := (i : Int) + 1) (by omega) (by omega)]
      have := ih (i + 1) (xs ++ [z]) (by omega) (by rw [List.length_append, List.length_singleton]; omega)
      have e1 : gtI (l.drop i) n = gtI (l.drop (i + 1)) n := by
        unfold gtI
        rw [drop_get hz3, List.any_cons, decide_eq_false hg]
        rfl
      have e2 : insR (l.drop i) n = z :: insR (l.drop (i + 1)) n := by
        rw [drop_get hz3]
        conv => lhs; unfold insR
        rw [decide_eq_false hg]
        rfl
      rw [e1, e2, drop_get hz3]
      rw [List.append_assoc] at this
      cases hq : gtI (l.drop (i + 1)) n with
      | true => rw [hq] at this; exact this
      | false => rw [hq] at this; exact this
def dl84 (s : TS U) : Option (List Int × List Int × Int × Bool × Int) := match told s 55 [0, 1, 5, 6, 7] 0, s.objs with
  | some [a0, a1, a2, a3, a4], [o0] =>
    match o0 with
    | .row .i64 xs false =>
      match a0 with
      | .lst .i64 l =>
        match a1 with
        | .v (.int .i64 n) =>
          match a2 with
          | .full 0 =>
            match a3 with
            | .v (.bool d) =>
              match a4 with
              | .v (.int .i64 i) =>
                some (xs, l, n, d, i)
              | _ => none
            | _ => none
          | _ => none
        | _ => none
      | _ => none
    | _ => none
  | _, _ => none
theorem dl84_ok {s : TS U} {xs : List Int} {l : List Int} {n : Int} {d : Bool} {i : Int} (h : dl84 s = some (xs, l, n, d, i)) : s = mkS (U := U) 55 ([0, 1, 5, 6, 7].zip ([.lst .i64 l, .v (.int .i64 n), .full 0, .v (.bool d), .v (.int .i64 i)] : List (TV U))) ([.row .i64 xs false] : List (TO U)) 0 := by
  unfold dl84 at h
  split at h <;> try (cases h; done)
  rename_i ht ho
  have hs := told_ok ht
  rw [ho] at hs
  repeat' split at h
  all_goals first | (cases h; done) | (cases h; exact hs)
def P84 (m : Nat) (xs : List Int) (d : Bool) (i : Int) : Prop := Pl m ∧ xs = [] ∧ d = false ∧ i = 0
noncomputable instance (m : Nat) (xs : List Int) (d : Bool) (i : Int) : Decidable (P84 m xs d i) := Classical.propDecidable _
def row84 (l : List Int) (n : Int) : List Int := cond (gtI l n) (insR l n) l
noncomputable def lc84 : LC U := .of dl84 (fun (xs, l, n, d, i) => P84 l.length xs d i) (.exit 0) fun (xs, l, n, d, i) => Z84 n (row84 l n) (gtI l n)
noncomputable def lp84 : Lp U := lpL [(0, lc84)]
theorem lp84_ok : ∀ c, Tryd.f14.body = some c → LpOk X E84 an84 lp84 (loops c 0) := lpL_ok (by kernel_rfl) fun b L hm st p hs => by
  cases hm with
  | head =>
    obtain ⟨⟨xs, l, n, d, i⟩, hx, ⟨h, rfl, rfl, rfl⟩, rfl⟩ := LC.of_some hs
    obtain rfl := dl84_ok hx
    exact ⟨_, rounds84f _ l n h l.length 0 [] (Nat.zero_add _) (Nat.le_refl 0)⟩
  | tail _ hm => cases hm
theorem e84 (l : List
  Int) (n : Int) : (evFn X E84 an84 lp84 Tryd.f14 [] [TV.lst C.i64 l, TV.v (Value.int IntKind.i64 n)]
  fun (o : List (TO X.U)) (v : TV X.U) => some (o, v)) =
  bif decide (n < 0) then some ([], TV.lst C.i64 l)
else
  bif decide (1048576 ≤ n) then some ([], TV.lst C.i64 l)
  else
    if Pl l.length then
      bif memI l n then some ([], TV.lst C.i64 l)
      else
        if P84 l.length [] false 0 then
          bif !gtI l n then
            if ((row84 l n).length + 1) * 8 ≤ 140737488355328 then some ([], TV.lst C.i64 (row84 l n ++ [n])) else none
          else some ([], TV.lst C.i64 (row84 l n))
        else none
    else none := by kernel_rfl
/-- With a number, if it may be. -/
def rwR (l : List Int) (n : Int) : List Int := cond (decide (n < 0) || decide (1048576 ≤ n) || memI l n) l (insR l n)
theorem insR_len : ∀ (l : List Int) (n : Int), (insR l n).length = l.length + 1
  | [], n => rfl
  | z :: l, n => by
    unfold insR
    cases decide (n < z)
    · rw [cond_false, List.length_cons, insR_len l n, List.length_cons]
    · rfl
def sRw0 : Spc U := .of dLn (fun (l, n) => Pl l.length) (fun _ => []) fun (l, n) => .lst .i64 (rwR l n)
theorem sRw0_ok : SpecOk Tryd.prog 14 sRw0 := by
  refine fn_ok X_ok mixed E84_ok an84 lp84 Tryd.func14 (by kernel_rfl) (by kernel_rfl) lp84_ok fun objs args x hx hp => ?_
  obtain ⟨l, n⟩ := x
  obtain ⟨rfl, rfl⟩ := dLn_ok hx
  have hp : Pl l.length := hp
  have hlen : l.length ≤ 1000000 := hp
  refine (e84 l n).trans ?_
  show _ = some ([], @TV.lst U C.i64 (rwR l n))
  have q : P84 l.length [] false 0 := ⟨hp, rfl, rfl, rfl⟩
  unfold rwR
  cases decide (n < 0) with
  | true => rfl
  | false =>
    cases decide (1048576 ≤ n) with
    | true => rfl
    | false =>
      rw [cond_false, cond_false, if_pos hp]
      cases hm : memI l n with
      | true => rfl
      | false =>
        rw [cond_false, if_pos q]
        cases hg : gtI l n with
        | true =>
          have : row84 l n = insR l n := by unfold row84; rw [hg]; rfl
          rw [this]
          rfl
        | false =>
          have : row84 l n = l := by unfold row84; rw [hg]; rfl
          rw [this, insR_none hg]
          rw [Bool.not_false, cond_true, if_pos (by omega)]
          rfl
def sRw : Spc U := sRw0.wkA [.l .i64, .no]
theorem sRw_ok : SpecOk Tryd.prog 14 sRw := sRw0_ok.wkA _
def E61 : FuncId → Option (Spc U)
  | 14 => some sRw
  | _ => none
theorem E61_ok : ∀ f S, E61 f = some S → SpecOk Tryd.prog f S := fun f S h => by
  unfold E61 at h
  split at h
  · cases h; exact sRw_ok
  · cases h
def an61 : Ann := ⟨fun | 0 => 25 | _ => 0, fun | 0 => 12 | _ => 0, fun | 2 => [3] | _ => [], false⟩
def S61 (l out : List Int) (i : Int) : TS U := mkS 19 [(0, .lst .i64 l), (3, .lst .i64 out), (4, .v (.int .i64 i))] [] 0
theorem r61 (lp : Lp
  U) (N : Nat) (l : List Int) (out : List Int) (i : Int) : (fnLoop X E61 an61 lp Tryd.f26 0 N.succ (S61 l out i)) =
  bif decide (i < (↑l.length : Int)) then
  (getI l i).bind fun (z : X.U.T C.i64) =>
    if Pl out.length then
      fnLoop X E61 an61 lp Tryd.f26 0 N
        (mkS 19
          [(0, TV.lst C.i64 l), (3, TV.lst C.i64 (rwR out z)),
            (4, TV.v (Value.int IntKind.i64 (IntKind.i64.wrap (i + 1))))]
          [] 0)
    else none
else some (Exit.exit 0, mkS 19 [(3, TV.lst C.i64 out)] [] 0) := by kernel_rfl
theorem rwR_len (l : List Int) (n : Int) : (rwR l n).length ≤ l.length + 1 := by
  unfold rwR
  have := insR_len l n
  cases (decide (n < 0) || decide (1048576 ≤ n) || memI l n)
  · rw [cond_false]; omega
  · rw [cond_true]; omega
/-- A set of numbers. -/
def ofR (l : List Int) : List Int := l.foldl rwR []
def Z61 (out : List Int) : TS U := mkS 19 [(3, .lst .i64 out)] [] 0
theorem rounds61 (lp : Lp U) (l : List Int) (hl : l.length ≤ 1000000) : ∀ (m i : Nat) (out : List Int), i + m = l.length → out.length ≤ i → fnLoop X E61 an61 lp Tryd.f26 0 (m + 1) (S61 l out i) = some (.exit 0, Z61 ((l.drop i).foldl rwR out)) := by
  intro m
  induction m with
  | zero => intro i out hi hx; rw [r61, decide_eq_false (by omega), List.drop_eq_nil_of_le (by omega)]; rfl
  | succ m ih =>
    intro i out hi hx
    obtain ⟨z, hz, hz2⟩ := getE (l := l) (v := (i : Int)) (by omega) (by omega)
    have := rwR_len out z
    rw [r61, decide_eq_true (by omega), hz, cond_true, Option.bind_some, if_pos (show Pl out.length by unfold Pl; omega), wr (a := (i : Int) + 1) (by omega) (by omega), drop_get (show l[i]? = some z from hz2), List.foldl_cons]
    exact ih (i + 1) (rwR out z) (by omega) (by omega)
def dl61 (s : TS U) : Option (List Int × List Int × Int) := match told s 19 [0, 3, 4] 0, s.objs with
  | some [a0, a1, a2], [] =>
    match a0 with
    | .lst .i64 l =>
      match a1 with
      | .lst .i64 out =>
        match a2 with
        | .v (.int .i64 i) =>
          some (l, out, i)
        | _ => none
      | _ => none
    | _ => none
  | _, _ => none
theorem dl61_ok {s : TS U} {l : List Int} {out : List Int} {i : Int} (h : dl61 s = some (l, out, i)) : s = mkS (U := U) 19 ([0, 3, 4].zip ([.lst .i64 l, .lst .i64 out, .v (.int .i64 i)] : List (TV U))) ([] : List (TO U)) 0 := by
  unfold dl61 at h
  split at h <;> try (cases h; done)
  rename_i ht ho
  have hs := told_ok ht
  rw [ho] at hs
  repeat' split at h
  all_goals first | (cases h; done) | (cases h; exact hs)
def P61 (m : Nat) (out : List Int) (i : Int) : Prop := Pl m ∧ out = [] ∧ i = 0
noncomputable instance (m : Nat) (out : List Int) (i : Int) : Decidable (P61 m out i) := Classical.propDecidable _
noncomputable def lc61 : LC U := .of dl61 (fun (l, out, i) => P61 l.length out i) (.exit 0) fun (l, out, i) => Z61 (ofR l)
noncomputable def lp61 : Lp U := lpL [(0, lc61)]
theorem lp61_ok : ∀ c, Tryd.f26.body = some c → LpOk X E61 an61 lp61 (loops c 0) := lpL_ok (by kernel_rfl) fun b L hm st p hs => by
  cases hm with
  | head =>
    obtain ⟨⟨l, out, i⟩, hx, ⟨h, rfl, rfl⟩, rfl⟩ := LC.of_some hs
    obtain rfl := dl61_ok hx
    exact ⟨_, rounds61 _ l h l.length 0 [] (Nat.zero_add _) (Nat.le_refl 0)⟩
  | tail _ hm => cases hm
theorem e61 (l : List
  Int) : (evFn X E61 an61 lp61 Tryd.f26 [] [TV.lst C.i64 l] fun (o : List (TO X.U)) (v : TV X.U) => some (o, v)) =
  if P61 l.length [] 0 then some ([], TV.lst C.i64 (ofR l)) else none := by kernel_rfl
def dLi (objs : List (TO U)) (args : List (TV U)) : Option (List Int) := match objs, args with
  | [], [a0] =>
    match a0 with
    | .lst .i64 l =>
      some l
    | _ => none
  | _, _ => none
theorem dLi_ok {objs : List (TO U)} {args : List (TV U)} {l : List Int} (h : dLi objs args = some l) : objs = [] ∧ args = [.lst .i64 l] := by
  unfold dLi at h
  repeat' split at h
  all_goals first | (cases h; done) | (cases h; exact ⟨rfl, rfl⟩)
def sOf0 : Spc U := .of dLi (fun l => Pl l.length) (fun _ => []) fun l => .lst .i64 (ofR l)
theorem sOf0_ok : SpecOk Tryd.prog 26 sOf0 := by
  refine fn_ok X_ok mixed E61_ok an61 lp61 Tryd.func26 (by kernel_rfl) (by kernel_rfl) lp61_ok fun objs args l hx hp => ?_
  obtain ⟨rfl, rfl⟩ := dLi_ok hx
  exact (e61 l).trans (if_pos (show P61 l.length [] 0 from ⟨hp, rfl, rfl⟩))
def sOf : Spc U := sOf0.wkA [.l .i64]
theorem sOf_ok : SpecOk Tryd.prog 26 sOf := sOf0_ok.wkA _
end Go.Proofs.YtmcflglkfgnbbaaDoor.Bt

/- A set, and the document's. -/
namespace Go.Proofs.YtmcflglkfgnbbaaDoor.Bt
open Go Go.RowKit Go.Proofs.YtmcflglkfgnbbaaDoor.Eng Go.Proofs.YtmcflglkfgnbbaaDoor.Nd
set_option linter.unusedVariables false
set_option linter.unusedSimpArgs false
set_option maxRecDepth 20000
/-! ### The same numbers -/
/-- A list that rises, of just those numbers that are in a set. -/
def RelP (ps : List R54) (xs : List Int) : Prop := OkP ps ∧ xs.Pairwise (· < ·) ∧ (∀ n ∈ xs, 0 ≤ n ∧ n < 1048576) ∧ ∀ n, 0 ≤ n → (n ∈ xs ↔ hasP ps n = true)
theorem mem_insR : ∀ (l : List Int) (n m : Int), m ∈ insR l n ↔ m ∈ l ∨ m = n
  | [], n, m => by unfold insR; simp
  | z :: l, n, m => by
    unfold insR
    cases decide (n < z) with
    | true => rw [cond_true, List.mem_cons]; exact or_comm
    | false =>
      rw [cond_false, List.mem_cons, List.mem_cons, mem_insR l n m]
      constructor
      · rintro (h | h | h)
        · exact .inl (.inl h)
        · exact .inl (.inr h)
        · exact .inr h
      · rintro ((h | h) | h)
        · exact .inl h
        · exact .inr (.inl h)
        · exact .inr (.inr h)
theorem rise_insR : ∀ {l : List Int} {n : Int}, l.Pairwise (· < ·) → n ∉ l → (insR l n).Pairwise (· < ·)
  | [], n, _, _ => by unfold insR; simp
  | z :: l, n, h, hn => by
    obtain ⟨h1, h2⟩ := List.pairwise_cons.1 h
    unfold insR
    by_cases hz : n < z
    · rw [decide_eq_true hz, cond_true]
      exact List.pairwise_cons.2 ⟨fun y hy => by
        rcases List.mem_cons.1 hy with rfl | hy
        · exact hz
        · have := h1 y hy; omega, h⟩
    · rw [decide_eq_false hz, cond_false]
      refine List.pairwise_cons.2 ⟨fun y hy => ?_, rise_insR h2 fun hm => hn (List.mem_cons_of_mem _ hm)⟩
      rcases (mem_insR l n y).1 hy with hy | rfl
      · exact h1 y hy
      · have : y ≠ z := fun e => hn (by rw [e]; exact List.mem_cons_self)
        omega
theorem relP_nil : RelP [] [] := ⟨⟨List.Pairwise.nil, by simp⟩, List.Pairwise.nil, by simp, fun n _ => ⟨fun h => by simp at h, fun h => by cases h⟩⟩
theorem relP_with {ps : List R54} {xs : List Int} (h : RelP ps xs) (n : Int) : RelP (withP ps n) (rwR xs n) := by
  obtain ⟨h1, h2, h3, h4⟩ := h
  obtain ⟨k1, k2⟩ := withP_ok h1 n
  unfold rwR
  by_cases h0 : n < 0
  · rw [decide_eq_true h0]
    exact ⟨k1, h2, h3, fun m hm => (h4 m hm).trans ((k2 m hm).trans ⟨fun k => k.elim id fun k => by have := k.2.1; omega, .inl⟩).symm⟩
  · rw [decide_eq_false h0]
    by_cases hM : 1048576 ≤ n
    · rw [decide_eq_true hM]
      exact ⟨k1, h2, h3, fun m hm => (h4 m hm).trans ((k2 m hm).trans ⟨fun k => k.elim id fun k => by have := k.2.2; omega, .inl⟩).symm⟩
    · rw [decide_eq_false hM, Bool.or_self, Bool.false_or]
      by_cases hm : n ∈ xs
      · have : memI xs n = true := decide_eq_true hm
        rw [this, cond_true]
        exact ⟨k1, h2, h3, fun m hm' => (h4 m hm').trans ((k2 m hm').trans ⟨fun k => k.elim id fun k => by rw [k.1]; exact (h4 n (by omega)).1 hm, .inl⟩).symm⟩
      · have : memI xs n = false := decide_eq_false hm
        rw [this, cond_false]
        refine ⟨k1, rise_insR h2 hm, fun m hm' => ?_, fun m hm' => ?_⟩
        · rcases (mem_insR xs n m).1 hm' with h | rfl
          · exact h3 m h
          · omega
        · rw [mem_insR, h4 m hm', k2 m hm']
          unfold mayP
          constructor
          · rintro (h | h)
            · exact .inl h
            · exact .inr ⟨h, by omega, by omega⟩
          · rintro (h | h)
            · exact .inl h
            · exact .inr h.1
/-- A set of numbers, by parts. -/
def ofP (l : List Int) : List R54 := l.foldl withP []
theorem relP_of (l : List Int) : RelP (ofP l) (ofR l) := by
  have key : ∀ (l : List Int) (ps : List R54) (xs : List Int), RelP ps xs → RelP (l.foldl withP ps) (l.foldl rwR xs) := by
    intro l
    induction l with
    | nil => intro ps xs h; exact h
    | cons n l ih => intro ps xs h; exact ih _ _ (relP_with h n)
  exact key l [] [] relP_nil
noncomputable def E26 : FuncId → Option (Spc U)
  | 10 => some sWith
  | 26 => some sOf
  | _ => none
theorem E26_ok : ∀ f S, E26 f = some S → SpecOk Tryd.prog f S := fun f S h => by
  unfold E26 at h
  split at h
  · cases h; exact sWith_ok
  · cases h; exact sOf_ok
  · cases h
def an26 : Ann := ⟨fun | 0 => 116 | _ => 0, fun | 0 => 60 | _ => 0, fun _ => [], false⟩
def S26 (k : List Int) (v : TV U) (i : Int) : TS U := mkS 27 [(2, .ref 0 0 0), (4, .lst .i64 k), (5, .ref 1 0 0), (6, .v (.int .i64 i))] [.cells [nlv] false, .cells [v] false] 0
def Z26 (k : List Int) (v : TV U) : TS U := mkS 27 [(2, .ref 0 0 0), (4, .lst .i64 k), (5, .ref 1 0 0)] [.cells [nlv] false, .cells [v] false] 0
theorem r26a (lp : Lp U) (N : Nat) (k : List Int) (ps : List R54) (i : Int) : fnLoop X E26 an26 lp Tryd.f7 0 N.succ (S26 k (nvL .t54 ps) i) = cond (decide (i < (k.length : Int))) ((getI k i).bind fun z => if PWith ps then cond (withP ps z).isEmpty (fnLoop X E26 an26 lp Tryd.f7 0 N (S26 k nlv (IntKind.i64.wrap (i + 1)))) (fnLoop X E26 an26 lp Tryd.f7 0 N (S26 k (.lst .t54 (cP (withP ps z))) (IntKind.i64.wrap (i + 1)))) else none) (some (.exit 0, Z26 k (nvL .t54 ps))) := by cases ps <;> kernel_rfl
theorem r26 (lp : Lp U) (N : Nat) (k : List Int) (ps : List R54) (i : Int) : fnLoop X E26 an26 lp Tryd.f7 0 N.succ (S26 k (nvL .t54 ps) i) = cond (decide (i < (k.length : Int))) ((getI k i).bind fun z => if PWith ps then fnLoop X E26 an26 lp Tryd.f7 0 N (S26 k (nvL .t54 (withP ps z)) (IntKind.i64.wrap (i + 1))) else none) (some (.exit 0, Z26 k (nvL .t54 ps))) := by
  rw [r26a]
  congr 1
  cases getI k i with
  | none => rfl
  | some z =>
    rw [Option.bind_some, Option.bind_some]
    cases hq : (withP ps z).isEmpty with
    | true => rw [nvP_e hq]; rfl
    | false => rw [nvP_c hq]; rfl
theorem rounds26 (lp : Lp U) (k : List Int) (hl : k.length ≤ 1000000) : ∀ (m i : Nat) (ps : List R54), i + m = k.length → OkP ps → fnLoop X E26 an26 lp Tryd.f7 0 (m + 1) (S26 k (nvL .t54 ps) i) = some (.exit 0, Z26 k (nvL .t54 ((k.drop i).foldl withP ps))) := by
  intro m
  induction m with
  | zero => intro i ps hi hx; rw [r26, decide_eq_false (by omega), List.drop_eq_nil_of_le (by omega)]; rfl
  | succ m ih =>
    intro i ps hi hx
    obtain ⟨z, hz, hz2⟩ := getE (l := k) (v := (i : Int)) (by omega) (by omega)
    rw [r26, decide_eq_true (by omega), hz, cond_true, Option.bind_some, if_pos (show PWith ps from hx), wr (a := (i : Int) + 1) (by omega) (by omega), drop_get (show k[i]? = some z from hz2), List.foldl_cons]
    exact ih (i + 1) (withP ps z) (by omega) (withP_ok hx z).1
def dl26 (s : TS U) : Option (List Int × Int) := match told s 27 [2, 4, 5, 6] 0, s.objs with
  | some [a0, a1, a2, a3], [o0, o1] =>
    match o0 with
    | .cells [q0] false =>
      match q0 with
      | .v (.slice none 0 0) =>
        match o1 with
        | .cells [q1] false =>
          match q1 with
          | .v (.slice none 0 0) =>
            match a0 with
            | .ref 0 0 0 =>
              match a1 with
              | .lst .i64 k =>
                match a2 with
                | .ref 1 0 0 =>
                  match a3 with
                  | .v (.int .i64 i) =>
                    some (k, i)
                  | _ => none
                | _ => none
              | _ => none
            | _ => none
          | _ => none
        | _ => none
      | _ => none
    | _ => none
  | _, _ => none
theorem dl26_ok {s : TS U} {k : List Int} {i : Int} (h : dl26 s = some (k, i)) : s = mkS (U := U) 27 ([2, 4, 5, 6].zip ([.ref 0 0 0, .lst .i64 k, .ref 1 0 0, .v (.int .i64 i)] : List (TV U))) ([.cells [.v (.slice none 0 0)] false, .cells [.v (.slice none 0 0)] false] : List (TO U)) 0 := by
  unfold dl26 at h
  split at h <;> try (cases h; done)
  rename_i ht ho
  have hs := told_ok ht
  rw [ho] at hs
  repeat' split at h
  all_goals first | (cases h; done) | (cases h; exact hs)
def P26 (m : Nat) (i : Int) : Prop := Pl m ∧ i = 0
instance (m : Nat) (i : Int) : Decidable (P26 m i) := by unfold P26; infer_instance
def lc26 : LC U := .of2 dl26 (fun (k, i) => P26 k.length i) (fun (k, i) => (ofP k).isEmpty) (.exit 0) (fun (k, i) => Z26 k nlv) (.exit 0) fun (k, i) => Z26 k (.lst .t54 (cP (ofP k)))
def lp26 : Lp U := lpL [(0, lc26)]
theorem lp26_ok : ∀ c, Tryd.f7.body = some c → LpOk X E26 an26 lp26 (loops c 0) := lpL_ok (by kernel_rfl) fun b L hm st p hs => by
  cases hm with
  | head =>
    obtain ⟨⟨k, i⟩, hx, ⟨h, rfl⟩, rfl⟩ := LC.of2_some hs
    obtain rfl := dl26_ok hx
    refine ⟨_, (rounds26 _ k h k.length 0 [] (Nat.zero_add _) relP_nil.1).trans ?_⟩
    rw [List.drop_zero]
    show some (_, Z26 k (nvL .t54 (ofP k))) = _
    dsimp only
    cases hq : (ofP k).isEmpty with
    | true => rw [nvP_e hq]; rfl
    | false => rw [nvP_c hq]; rfl
  | tail _ hm => cases hm
theorem e26 (l : List
  Int) : (evFn X E26 an26 lp26 Tryd.f7 [] [TV.lst C.i64 l] fun (o : List (TO X.U)) (v : TV X.U) => some (o, v)) =
  (cutI l none (some (if 100 < (↑l.length : Int) then 100 else (↑l.length : Int)))).bind
  fun (ys : List (X.U.T C.i64)) =>
  if P26 ys.length 0 then
    bif (ofP ys).isEmpty then
      if Pl ys.length then some ([], TV.tup [TV.agg [TV.v (Value.slice none 0 0)], TV.lst C.i64 (ofR ys)]) else none
    else if Pl ys.length then some ([], TV.tup [TV.agg [@TV.lst U C.t54 (cP (ofP ys))], TV.lst C.i64 (ofR ys)]) else none
  else none := by kernel_rfl
def sSet0 : Spc U := .of2 dLi (fun _ => True) (fun l => (ofP (l.take 100)).isEmpty) (fun _ => []) (fun l => .tup [.agg [nlv], .lst .i64 (ofR (l.take 100))]) (fun _ => []) fun l => .tup [.agg [.lst .t54 (cP (ofP (l.take 100)))], .lst .i64 (ofR (l.take 100))]
theorem sSet0_ok : SpecOk Tryd.prog 7 sSet0 := by
  refine fn_ok2 X_ok mixed E26_ok an26 lp26 Tryd.func7 (by kernel_rfl) (by kernel_rfl) lp26_ok fun objs args l hx hp => ?_
  obtain ⟨rfl, rfl⟩ := dLi_ok hx
  refine (e26 l).trans ?_
  have hc : cutI l none (some (if 100 < (l.length : Int) then 100 else (l.length : Int))) = some (l.take 100) := by
    by_cases h : 100 < (l.length : Int)
    · rw [if_pos h]
      show (if 0 ≤ (100 : Int) ∧ (100 : Int) ≤ (l.length : Int) then some (l.take (100 : Int).toNat) else none) = _
      rw [if_pos ⟨by omega, by omega⟩]
      rfl
    · rw [if_neg h]
      show (if 0 ≤ (l.length : Int) ∧ (l.length : Int) ≤ (l.length : Int) then some (l.take (l.length : Int).toNat) else none) = _
      rw [if_pos ⟨by omega, by omega⟩, Int.toNat_natCast, List.take_of_length_le (Nat.le_refl _), List.take_of_length_le (by omega)]
  have hl : (l.take 100).length ≤ 100 := by rw [List.length_take]; omega
  rw [hc, Option.bind_some, if_pos (show P26 (l.take 100).length 0 from ⟨by unfold Pl; omega, rfl⟩)]
  have hPl : Pl (l.take 100).length := by unfold Pl; omega
  rw [if_pos hPl, if_pos hPl]
  dsimp only
  cases (ofP (l.take 100)).isEmpty <;> rfl
def sSet : Spc U := sSet0.wkA [.l .i64]
theorem sSet_ok : SpecOk Tryd.prog 7 sSet := sSet0_ok.wkA _
end Go.Proofs.YtmcflglkfgnbbaaDoor.Bt

/- Bits of words: how many are set, and where the first one stands. -/
namespace Go.Proofs.YtmcflglkfgnbbaaDoor.Pu
set_option linter.unusedVariables false
set_option linter.unusedSimpArgs false
/-- How many of the first bits are set. -/
def pc : Nat → Nat → Nat
  | 0, _ => 0
  | n + 1, x => pc n (x / 2) + x % 2
theorem and_cat (a b c d : Nat) (hb : b < 256) (hd : d < 256) : (256 * a + b) &&& (256 * c + d) = 256 * (a &&& c) + (b &&& d) := by
  apply Nat.eq_of_testBit_eq
  intro j
  have h1 := Nat.testBit_two_pow_mul_add a (b := b) (i := 8) hb j
  have h2 := Nat.testBit_two_pow_mul_add c (b := d) (i := 8) hd j
  have h3 := Nat.testBit_two_pow_mul_add (a &&& c) (b := b &&& d) (i := 8) (Nat.lt_of_le_of_lt Nat.and_le_left hb) j
  rw [Nat.testBit_and]
  show ((2 ^ 8 * a + b).testBit j && (2 ^ 8 * c + d).testBit j) = (2 ^ 8 * (a &&& c) + (b &&& d)).testBit j
  rw [h1, h2, h3]
  split <;> simp
def mk (c : Nat) : Nat → Nat
  | 0 => 0
  | n + 1 => 256 * mk c n + c
def s1 (n x : Nat) : Nat := (x / 2 &&& mk 85 n) + (x &&& mk 85 n)
def s2 (n x : Nat) : Nat := (x / 4 &&& mk 51 n) + (x &&& mk 51 n)
def s3 (n x : Nat) : Nat := (x / 16 + x) &&& mk 15 n
theorem b1 : ∀ (r : Fin 2) (lo : Fin 256), (128 * r.val + lo.val / 2) &&& 85 = (lo.val / 2) &&& 85 := by decide +kernel
theorem b1' : ∀ lo : Fin 256, ((lo.val / 2) &&& 85) + (lo.val &&& 85) < 256 := by decide +kernel
theorem b2 : ∀ (r : Fin 4) (lo : Fin 256), (64 * r.val + lo.val / 4) &&& 51 = (lo.val / 4) &&& 51 := by decide +kernel
def byte3 (lo : Nat) : Nat :=
  let y := ((lo / 2) &&& 85) + (lo &&& 85)
  ((y / 4) &&& 51) + (y &&& 51)
theorem b2' : ∀ lo : Fin 256, byte3 lo.val < 256 ∧ byte3 lo.val / 16 ≤ 4 ∧ byte3 lo.val % 16 ≤ 4 := by decide +kernel
theorem b3 : ∀ (lo : Fin 256) (r : Fin 5), (16 * r.val + byte3 lo.val / 16 + byte3 lo.val) < 256 ∧ (16 * r.val + byte3 lo.val / 16 + byte3 lo.val) &&& 15 = pc 8 lo.val := by decide +kernel
theorem s1_cat (n hi lo : Nat) (h : lo < 256) : s1 (n + 1) (256 * hi + lo) = 256 * s1 n hi + (((lo / 2) &&& 85) + (lo &&& 85)) := by
  unfold s1
  show ((256 * hi + lo) / 2 &&& (256 * mk 85 n + 85)) + ((256 * hi + lo) &&& (256 * mk 85 n + 85)) = _
  have e : (256 * hi + lo) / 2 = 256 * (hi / 2) + (128 * (hi % 2) + lo / 2) := by omega
  have k := b1 ⟨hi % 2, by omega⟩ ⟨lo, h⟩
  simp only at k
  rw [e, and_cat _ _ _ _ (by omega) (by omega), and_cat _ _ _ _ h (by omega), k]
  omega
theorem s2_cat (n hi lo : Nat) (h : lo < 256) : s2 (n + 1) (256 * hi + lo) = 256 * s2 n hi + (((lo / 4) &&& 51) + (lo &&& 51)) := by
  unfold s2
  show ((256 * hi + lo) / 4 &&& (256 * mk 51 n + 51)) + ((256 * hi + lo) &&& (256 * mk 51 n + 51)) = _
  have e : (256 * hi + lo) / 4 = 256 * (hi / 4) + (64 * (hi % 4) + lo / 4) := by omega
  have k := b2 ⟨hi % 4, by omega⟩ ⟨lo, h⟩
  simp only at k
  rw [e, and_cat _ _ _ _ (by omega) (by omega), and_cat _ _ _ _ h (by omega), k]
  omega
/-- Each byte as how many of its bits are set. -/
def spread : Nat → Nat → Nat
  | 0, _ => 0
  | n + 1, x => 256 * spread n (x / 256) + pc 8 (x % 256)
def low : Nat → Nat → Nat
  | 0, _ => 0
  | n + 1, x => byte3 (x % 256)
theorem s2_s1 (n x : Nat) : s2 (n + 1) (s1 (n + 1) x) = 256 * s2 n (s1 n (x / 256)) + byte3 (x % 256) := by
  have hx : x = 256 * (x / 256) + x % 256 := by omega
  have hl : x % 256 < 256 := by omega
  have k := b1' ⟨x % 256, hl⟩
  simp only at k
  conv => lhs; rw [hx]
  rw [s1_cat _ _ _ hl, s2_cat _ _ _ k]
  rfl
theorem s_mod (n x : Nat) : s2 n (s1 n x) % 16 ≤ 4 := by
  cases n with
  | zero => simp [s2, s1, mk]
  | succ n =>
    rw [s2_s1]
    have k := b2' ⟨x % 256, by omega⟩
    simp only at k
    omega
theorem s_all : ∀ (n x : Nat), s3 n (s2 n (s1 n x)) = spread n x
  | 0, x => by simp [s3, mk, spread]
  | n + 1, x => by
    rw [spread, ← s_all n (x / 256), s2_s1]
    have k := b2' ⟨x % 256, by omega⟩
    simp only at k
    have hm := s_mod n (x / 256)
    generalize s2 n (s1 n (x / 256)) = y at *
    have k3 := b3 ⟨x % 256, by omega⟩ ⟨y % 16, by omega⟩
    simp only at k3
    unfold s3
    have e : (256 * y + byte3 (x % 256)) / 16 + (256 * y + byte3 (x % 256)) = 256 * (y / 16 + y) + (16 * (y % 16) + byte3 (x % 256) / 16 + byte3 (x % 256)) := by omega
    rw [e]
    show (256 * (y / 16 + y) + _) &&& (256 * mk 15 n + 15) = _
    rw [and_cat _ _ _ _ k3.1 (by omega), k3.2]
theorem pc_le : ∀ (n x : Nat), pc n x ≤ n
  | 0, x => Nat.le_refl _
  | n + 1, x => by
    have := pc_le n (x / 2)
    show pc n (x / 2) + x % 2 ≤ _
    omega
theorem pc_add : ∀ (m n x : Nat), pc (m + n) x = pc m x + pc n (x / 2 ^ m)
  | 0, n, x => by simp [pc]
  | m + 1, n, x => by
    rw [show m + 1 + n = (m + n) + 1 by omega]
    show pc (m + n) (x / 2) + x % 2 = pc m (x / 2) + x % 2 + _
    rw [pc_add m n (x / 2), Nat.div_div_eq_div_mul, Nat.pow_succ, Nat.mul_comm 2]
    omega
theorem pc_mod : ∀ (m x : Nat), pc m (x % 2 ^ m) = pc m x
  | 0, x => rfl
  | m + 1, x => by
    show pc m (x % 2 ^ (m + 1) / 2) + x % 2 ^ (m + 1) % 2 = pc m (x / 2) + x % 2
    have e1 : x % 2 ^ (m + 1) / 2 = (x / 2) % 2 ^ m := by rw [Nat.pow_succ, Nat.mul_comm, Nat.mod_mul_right_div_self]
    have e2 : x % 2 ^ (m + 1) % 2 = x % 2 := Nat.mod_mod_of_dvd _ (by rw [Nat.pow_succ]; exact Nat.dvd_mul_left ..)
    rw [e1, e2, pc_mod m (x / 2)]
/-- The number of bits, by the machine's way. -/
def ones (x : Nat) : Nat :=
  let y := s3 8 (s2 8 (s1 8 x))
  let y := y + y / 256
  let y := y + y / 65536
  let y := y + y / 4294967296
  y % 128
theorem ones_pc (x : Nat) : ones x = pc 64 x := by
  unfold ones
  rw [s_all]
  have hp : ∀ k : Nat, k < 8 → pc 8 (x / 256 ^ k % 256) ≤ 8 := fun k _ => pc_le 8 _
  have hs : pc 64 x = pc 8 (x % 256) + (pc 8 (x / 256 % 256) + (pc 8 (x / 256 / 256 % 256) + (pc 8 (x / 256 / 256 / 256 % 256) + (pc 8 (x / 256 / 256 / 256 / 256 % 256) + (pc 8 (x / 256 / 256 / 256 / 256 / 256 % 256) + (pc 8 (x / 256 / 256 / 256 / 256 / 256 / 256 % 256) + pc 8 (x / 256 / 256 / 256 / 256 / 256 / 256 / 256 % 256))))))) := by
    have q : ∀ (n y : Nat), pc (8 + n) y = pc 8 (y % 256) + pc n (y / 256) := fun n y => by rw [pc_add, ← pc_mod 8 y]
    rw [show (64 : Nat) = 8 + (8 + (8 + (8 + (8 + (8 + (8 + 8)))))) by omega, q, q, q, q, q, q, q, ← pc_mod 8 (x / 256 / 256 / 256 / 256 / 256 / 256 / 256)]
  rw [hs]
  simp only [spread]
  have l0 := pc_le 8 (x % 256)
  have l1 := pc_le 8 (x / 256 % 256)
  have l2 := pc_le 8 (x / 256 / 256 % 256)
  have l3 := pc_le 8 (x / 256 / 256 / 256 % 256)
  have l4 := pc_le 8 (x / 256 / 256 / 256 / 256 % 256)
  have l5 := pc_le 8 (x / 256 / 256 / 256 / 256 / 256 % 256)
  have l6 := pc_le 8 (x / 256 / 256 / 256 / 256 / 256 / 256 % 256)
  have l7 := pc_le 8 (x / 256 / 256 / 256 / 256 / 256 / 256 / 256 % 256)
  generalize pc 8 (x % 256) = c0 at *
  generalize pc 8 (x / 256 % 256) = c1 at *
  generalize pc 8 (x / 256 / 256 % 256) = c2 at *
  generalize pc 8 (x / 256 / 256 / 256 % 256) = c3 at *
  generalize pc 8 (x / 256 / 256 / 256 / 256 % 256) = c4 at *
  generalize pc 8 (x / 256 / 256 / 256 / 256 / 256 % 256) = c5 at *
  generalize pc 8 (x / 256 / 256 / 256 / 256 / 256 / 256 % 256) = c6 at *
  generalize pc 8 (x / 256 / 256 / 256 / 256 / 256 / 256 / 256 % 256) = c7 at *
  clear hs hp
  obtain ⟨z, hz⟩ : ∃ z, 256 * (256 * (256 * (256 * (256 * (256 * (256 * (256 * 0 + c7) + c6) + c5) + c4) + c3) + c2) + c1) + c0 = z := ⟨_, rfl⟩
  rw [hz]
  have h1 : z / 256 = 256 * (256 * (256 * (256 * (256 * (256 * c7 + c6) + c5) + c4) + c3) + c2) + c1 := by omega
  obtain ⟨y, hy⟩ : ∃ y, z + z / 256 = y := ⟨_, rfl⟩
  have hy' : y = 256 * (256 * (256 * (256 * (256 * (256 * (256 * c7 + (c6 + c7)) + (c5 + c6)) + (c4 + c5)) + (c3 + c4)) + (c2 + c3)) + (c1 + c2)) + (c0 + c1) := by omega
  have h2 : y / 65536 = 256 * (256 * (256 * (256 * (256 * c7 + (c6 + c7)) + (c5 + c6)) + (c4 + c5)) + (c3 + c4)) + (c2 + c3) := by omega
  rw [hy]
  obtain ⟨w, hw⟩ : ∃ w, y + y / 65536 = w := ⟨_, rfl⟩
  have hw' : w = 256 * (256 * (256 * (256 * (256 * (256 * (256 * c7 + (c6 + c7)) + (c5 + c6 + c7)) + (c4 + c5 + c6 + c7)) + (c3 + c4 + c5 + c6)) + (c2 + c3 + c4 + c5)) + (c1 + c2 + c3 + c4)) + (c0 + c1 + c2 + c3) := by omega
  have h3 : w / 4294967296 = 256 * (256 * (256 * c7 + (c6 + c7)) + (c5 + c6 + c7)) + (c4 + c5 + c6 + c7) := by omega
  rw [hw, h3, hw']
  clear hw' h3 hw h2 hy' hy h1 hz
  have e : ∀ (A B S : Nat), S < 128 → (256 * A + S + (256 * B + 0)) % 128 = S := fun A B S h => by omega
  generalize 256 * (256 * (256 * (256 * (256 * (256 * c7 + (c6 + c7)) + (c5 + c6 + c7)) + (c4 + c5 + c6 + c7)) + (c3 + c4 + c5 + c6)) + (c2 + c3 + c4 + c5)) + (c1 + c2 + c3 + c4) = A
  generalize 256 * (256 * c7 + (c6 + c7)) + (c5 + c6 + c7) = B
  omega
/-- The place of the lowest bit that is set. -/
def tz : Nat → Nat → Nat
  | 0, _ => 0
  | n + 1, x => if x % 2 = 1 then 0 else tz n (x / 2) + 1
theorem tz_le : ∀ (n x : Nat), tz n x ≤ n
  | 0, x => Nat.le_refl _
  | n + 1, x => by
    unfold tz
    split
    · omega
    · have := tz_le n (x / 2); omega
theorem tz_spec : ∀ (n x : Nat), 0 < x → x < 2 ^ n → tz n x < n ∧ ∃ q, x = 2 ^ tz n x * (2 * q + 1)
  | 0, x, h0, h1 => by omega
  | n + 1, x, h0, h1 => by
    unfold tz
    split
    · exact ⟨by omega, x / 2, by rw [Nat.pow_zero]; omega⟩
    · have hx : 0 < x / 2 := by omega
      have hl : x / 2 < 2 ^ n := by rw [Nat.pow_succ] at h1; omega
      obtain ⟨h2, q, hq⟩ := tz_spec n (x / 2) hx hl
      refine ⟨by omega, q, ?_⟩
      rw [Nat.pow_succ, Nat.mul_comm _ 2, Nat.mul_assoc, ← hq]
      omega
theorem tz_bit (n x : Nat) (h0 : 0 < x) (h1 : x < 2 ^ n) : x.testBit (tz n x) = true ∧ ∀ j, j < tz n x → x.testBit j = false := by
  obtain ⟨h2, q, hq⟩ := tz_spec n x h0 h1
  generalize tz n x = k at *
  subst hq
  refine ⟨?_, fun j hj => ?_⟩
  · have := Nat.testBit_two_pow_mul (i := k) (j := k) (a := 2 * q + 1)
    rw [this]
    simp
  · have := Nat.testBit_two_pow_mul (i := k) (j := j) (a := 2 * q + 1)
    rw [this]
    simp
    omega
theorem and_neg (x : Nat) (h0 : 0 < x) (h1 : x < 2 ^ 64) : x &&& (2 ^ 64 - x) = 2 ^ tz 64 x := by
  obtain ⟨h2, q, hq⟩ := tz_spec 64 x h0 h1
  generalize tz 64 x = k at *
  subst hq
  have e64 : (2 : Nat) ^ 64 = 2 ^ k * 2 ^ (64 - k) := by rw [← Nat.pow_add]; congr 1; omega
  have e63 : (2 : Nat) ^ (64 - k) = 2 * 2 ^ (63 - k) := by rw [show 64 - k = (63 - k) + 1 by omega, Nat.pow_succ, Nat.mul_comm]
  have hpos : 0 < 2 ^ k := Nat.two_pow_pos k
  have hlt : 2 * q + 1 < 2 * 2 ^ (63 - k) := by
    rw [e64, e63] at h1
    exact Nat.lt_of_mul_lt_mul_left h1
  rw [e64, e63, ← Nat.mul_sub]
  apply Nat.eq_of_testBit_eq
  intro j
  rw [Nat.testBit_and, Nat.testBit_two_pow_mul, Nat.testBit_two_pow_mul, Nat.testBit_two_pow]
  by_cases hj : j ≥ k
  · simp only [hj, decide_true, Bool.true_and]
    rcases Nat.eq_zero_or_pos (j - k) with h | h
    · have : j = k := by omega
      subst this
      simp only [Nat.sub_self, Nat.testBit_zero]
      simp
      omega
    · have hne : k ≠ j := by omega
      simp only [hne, decide_false]
      obtain ⟨i, hi⟩ : ∃ i, j - k = i + 1 := ⟨j - k - 1, by omega⟩
      rw [hi, Nat.testBit_succ, Nat.testBit_succ]
      have d1 : (2 * q + 1) / 2 = q := by omega
      have d2 : (2 * 2 ^ (63 - k) - (2 * q + 1)) / 2 = 2 ^ (63 - k) - (q + 1) := by omega
      rw [d1, d2, Nat.testBit_two_pow_sub_succ (by omega)]
      cases Nat.testBit q i <;> simp
  · have hne : k ≠ j := by omega
    simp [hj, hne]
/-- Bits, one by one. -/
theorem pc_bits : ∀ (n x : Nat), pc n x = ((List.range n).map fun i => (x.testBit i).toNat).sum
  | 0, x => rfl
  | n + 1, x => by
    rw [List.range_succ_eq_map, List.map_cons, List.sum_cons, List.map_map]
    show pc n (x / 2) + x % 2 = _
    rw [pc_bits n (x / 2)]
    have e : (fun i => ((x / 2).testBit i).toNat) = ((fun i => (x.testBit i).toNat) ∘ Nat.succ) := by
      funext i
      simp [Function.comp, Nat.testBit_succ]
    rw [e, Nat.testBit_zero]
    have : (decide (x % 2 = 1)).toNat = x % 2 := by
      rcases Nat.mod_two_eq_zero_or_one x with h | h <;> simp [h]
    omega
end Go.Proofs.YtmcflglkfgnbbaaDoor.Pu

/- Words of 64 bits, as the machine reckons with them. -/
namespace Go.Proofs.YtmcflglkfgnbbaaDoor.Pu
open Go Go.Proofs.YtmcflglkfgnbbaaDoor.Eng
set_option linter.unusedVariables false
set_option linter.unusedSimpArgs false
theorem lt64 : (2 : Nat) ^ 64 = 18446744073709551616 := by decide
theorem wrapN {a : Nat} (h : a < 18446744073709551616) : IntKind.wrap .u64 (a : Int) = (a : Int) := wrap_u64 (by omega) (by omega)
theorem ofIntN (a : Nat) : (BitVec.ofInt 64 (a : Int)) = BitVec.ofNat 64 a := by
  apply BitVec.eq_of_toNat_eq
  simp [BitVec.toNat_ofInt]
theorem and_w {a b : Nat} (ha : a < 18446744073709551616) (hb : b < 18446744073709551616) : IntKind.wrap .u64 (((BitVec.ofInt 64 (a : Int) &&& BitVec.ofInt 64 (b : Int))).toNat : Nat) = ((a &&& b : Nat) : Int) := by
  rw [ofIntN, ofIntN, BitVec.toNat_and, BitVec.toNat_ofNat, BitVec.toNat_ofNat, Nat.mod_eq_of_lt (by rw [lt64]; exact ha), Nat.mod_eq_of_lt (by rw [lt64]; exact hb)]
  exact wrapN (Nat.lt_of_le_of_lt Nat.and_le_left ha)
theorem or_lt {a b : Nat} (ha : a < 18446744073709551616) (hb : b < 18446744073709551616) : a ||| b < 18446744073709551616 := by
  rw [← lt64] at *
  exact Nat.or_lt_two_pow ha hb
theorem or_w {a b : Nat} (ha : a < 18446744073709551616) (hb : b < 18446744073709551616) : IntKind.wrap .u64 (((BitVec.ofInt 64 (a : Int) ||| BitVec.ofInt 64 (b : Int))).toNat : Nat) = ((a ||| b : Nat) : Int) := by
  rw [ofIntN, ofIntN, BitVec.toNat_or, BitVec.toNat_ofNat, BitVec.toNat_ofNat, Nat.mod_eq_of_lt (by rw [lt64]; exact ha), Nat.mod_eq_of_lt (by rw [lt64]; exact hb)]
  exact wrapN (or_lt ha hb)
/-- What is left of one number's bits without another's. -/
def andn (a b : Nat) : Nat := a &&& (18446744073709551615 - b)
theorem andn_w {a b : Nat} (ha : a < 18446744073709551616) (hb : b < 18446744073709551616) : IntKind.wrap .u64 (((BitVec.ofInt 64 (a : Int) &&& ~~~BitVec.ofInt 64 (b : Int))).toNat : Nat) = ((andn a b : Nat) : Int) := by
  rw [ofIntN, ofIntN, BitVec.toNat_and, BitVec.toNat_not, BitVec.toNat_ofNat, BitVec.toNat_ofNat, Nat.mod_eq_of_lt (by rw [lt64]; exact ha), Nat.mod_eq_of_lt (by rw [lt64]; exact hb)]
  have e : (2 : Nat) ^ 64 - 1 - b = 18446744073709551615 - b := by rw [lt64]
  rw [e]
  exact wrapN (Nat.lt_of_le_of_lt Nat.and_le_left ha)
theorem not_w {a : Nat} (ha : a < 18446744073709551616) : IntKind.wrap .u64 (((BitVec.ofInt 64 (18446744073709551615 : Int) ^^^ BitVec.ofInt 64 (a : Int))).toNat : Nat) = ((18446744073709551615 - a : Nat) : Int) := by
  have e1 : (18446744073709551615 : Int) = ((18446744073709551615 : Nat) : Int) := rfl
  rw [e1, ofIntN, ofIntN, BitVec.toNat_xor, BitVec.toNat_ofNat, BitVec.toNat_ofNat, Nat.mod_eq_of_lt (by rw [lt64]; omega), Nat.mod_eq_of_lt (by rw [lt64]; exact ha)]
  have key : 18446744073709551615 ^^^ a = 18446744073709551615 - a := by
    apply Nat.eq_of_testBit_eq
    intro j
    have h1 := Nat.testBit_two_pow_sub_succ (n := 64) (x := 0) (by decide) j
    have h2 := Nat.testBit_two_pow_sub_succ (n := 64) (x := a) (by rw [lt64]; exact ha) j
    rw [lt64] at h1 h2
    have e2 : 18446744073709551616 - (a + 1) = 18446744073709551615 - a := by omega
    rw [e2] at h2
    rw [Nat.testBit_xor, h2]
    have h3 : Nat.testBit 18446744073709551615 j = decide (j < 64) := by
      have := h1
      simpa using this
    rw [h3]
    by_cases hj : j < 64
    · simp [hj]
    · have : a.testBit j = false := Nat.testBit_lt_two_pow (Nat.lt_of_lt_of_le ha (by rw [← lt64]; exact Nat.pow_le_pow_right (by decide) (by omega)))
      simp [hj, this]
  rw [key]
  exact wrapN (by omega)
theorem shr_w (a : Nat) (r : Int) (h0 : 0 ≤ r) (h1 : r < 64) : (a : Int).fdiv (2 ^ min r.toNat 64) = ((a / 2 ^ r.toNat : Nat) : Int) := by
  rw [Nat.min_eq_left (by omega), Int.fdiv_eq_ediv_of_nonneg _ (Int.le_of_lt (Int.pow_pos (by decide)))]
  have : ((2 : Int) ^ r.toNat) = ((2 ^ r.toNat : Nat) : Int) := by simp
  rw [this]
  rfl
theorem shl_w (r : Int) (h0 : 0 ≤ r) (h1 : r < 64) : IntKind.wrap .u64 (1 * 2 ^ min r.toNat 64) = ((2 ^ r.toNat : Nat) : Int) := by
  have e : (1 : Int) * 2 ^ min r.toNat 64 = ((2 ^ r.toNat : Nat) : Int) := by
    rw [Nat.min_eq_left (by omega)]
    simp
  rw [e]
  refine wrapN ?_
  rw [← lt64]
  exact Nat.pow_lt_pow_right (by decide) (by omega)
theorem pow_lt (r : Nat) (h : r < 64) : 2 ^ r < 18446744073709551616 := by
  rw [← lt64]
  exact Nat.pow_lt_pow_right (by decide) h
/-- One bit. -/
theorem bit_w (a : Nat) (ha : a < 18446744073709551616) (r : Int) (h0 : 0 ≤ r) (h1 : r < 64) :
    decide (IntKind.wrap .u64 (((BitVec.ofInt 64 (Int.fdiv (a : Int) (2 ^ min r.toNat 64)) &&& BitVec.ofInt 64 1)).toNat : Nat) = 1) = a.testBit r.toNat := by
  rw [shr_w a r h0 h1]
  have e1 : (1 : Int) = ((1 : Nat) : Int) := rfl
  have hlt : a / 2 ^ r.toNat < 18446744073709551616 := Nat.lt_of_le_of_lt (Nat.div_le_self _ _) ha
  have hm : ∀ x : Nat, x &&& 1 = x % 2 := fun x => Nat.and_one_is_mod x
  rw [e1, and_w hlt (by decide), Nat.testBit, Nat.shiftRight_eq_div_pow, Nat.and_comm 1, hm]
  rcases Nat.mod_two_eq_zero_or_one (a / 2 ^ r.toNat) with h | h <;> simp [h]
theorem quo_w (i : Int) (h0 : 0 ≤ i) (h1 : i ≤ 9223372036854775807) : IntKind.wrap .i64 (i.tdiv 64) = i / 64 := by
  rw [Int.tdiv_eq_ediv_of_nonneg h0, wrap_i64 (by omega) (by omega)]
theorem rem_w (i : Int) (h0 : 0 ≤ i) : i.tmod 64 = i % 64 := Int.tmod_eq_emod_of_nonneg h0
theorem tb_or_pow (a r j : Nat) : (a ||| 2 ^ r).testBit j = (a.testBit j || decide (r = j)) := by
  rw [Nat.testBit_or, Nat.testBit_two_pow]
theorem tb_compl (a j : Nat) (ha : a < 18446744073709551616) : (18446744073709551615 - a).testBit j = (decide (j < 64) && !a.testBit j) := by
  have h2 := Nat.testBit_two_pow_sub_succ (n := 64) (x := a) (by rw [lt64]; exact ha) j
  rw [lt64] at h2
  have e2 : 18446744073709551616 - (a + 1) = 18446744073709551615 - a := by omega
  rw [e2] at h2
  exact h2
theorem tb_andn (a r j : Nat) (hr : r < 64) : (andn a (2 ^ r)).testBit j = (a.testBit j && decide (j < 64) && !decide (r = j)) := by
  unfold andn
  rw [Nat.testBit_and, tb_compl _ _ (pow_lt r hr), Nat.testBit_two_pow, Bool.and_assoc]
theorem tb_div (a r j : Nat) : (a / 2 ^ r).testBit j = a.testBit (r + j) := by
  rw [Nat.testBit_div_two_pow, Nat.add_comm]
/-! ### As it is printed -/
theorem and_k {a b : Nat} (ha : a < 18446744073709551616) (hb : b < 18446744073709551616) : IntKind.wrap .u64 (((BitVec.ofInt IntKind.u64.bits (a : Int) &&& BitVec.ofInt IntKind.u64.bits (b : Int))).toNat : Nat) = ((a &&& b : Nat) : Int) := and_w ha hb
theorem or_k {a b : Nat} (ha : a < 18446744073709551616) (hb : b < 18446744073709551616) : IntKind.wrap .u64 (((BitVec.ofInt IntKind.u64.bits (a : Int) ||| BitVec.ofInt IntKind.u64.bits (b : Int))).toNat : Nat) = ((a ||| b : Nat) : Int) := or_w ha hb
theorem andn_k {a b : Nat} (ha : a < 18446744073709551616) (hb : b < 18446744073709551616) : IntKind.wrap .u64 (((BitVec.ofInt IntKind.u64.bits (a : Int) &&& ~~~BitVec.ofInt IntKind.u64.bits (b : Int))).toNat : Nat) = ((andn a b : Nat) : Int) := andn_w ha hb
theorem not_k {a : Nat} (ha : a < 18446744073709551616) : IntKind.wrap .u64 (((BitVec.ofInt IntKind.u64.bits (IntKind.max .u64) ^^^ BitVec.ofInt IntKind.u64.bits (a : Int))).toNat : Nat) = ((18446744073709551615 - a : Nat) : Int) := not_w ha
theorem shr_k (a : Nat) (r : Int) (h0 : 0 ≤ r) (h1 : r < 64) : (a : Int).fdiv (2 ^ min r.toNat IntKind.u64.bits) = ((a / 2 ^ r.toNat : Nat) : Int) := shr_w a r h0 h1
theorem shl_k (r : Int) (h0 : 0 ≤ r) (h1 : r < 64) : IntKind.wrap .u64 (1 * 2 ^ min r.toNat IntKind.u64.bits) = ((2 ^ r.toNat : Nat) : Int) := shl_w r h0 h1
theorem bit_k (a : Nat) (ha : a < 18446744073709551616) (r : Int) (h0 : 0 ≤ r) (h1 : r < 64) :
    decide (IntKind.wrap .u64 (((BitVec.ofInt IntKind.u64.bits (Int.fdiv (a : Int) (2 ^ min r.toNat IntKind.u64.bits)) &&& BitVec.ofInt IntKind.u64.bits 1)).toNat : Nat) = 1) = a.testBit r.toNat := bit_w a ha r h0 h1
end Go.Proofs.YtmcflglkfgnbbaaDoor.Pu

/- The numbers of a set, told by its parts: plain. -/
namespace Go.Proofs.YtmcflglkfgnbbaaDoor.Bl
open Go Go.Proofs.YtmcflglkfgnbbaaDoor.Pu
set_option linter.unusedVariables false
set_option linter.unusedSimpArgs false
/-- The lowest bit is left out of a number. -/
theorem and_pred {x : Nat} (h0 : 0 < x) (h1 : x < 2 ^ 64) (j : Nat) : (x &&& (x - 1)).testBit j = (x.testBit j && decide (j ≠ tz 64 x)) := by
  obtain ⟨ht, q, hq⟩ := tz_spec 64 x h0 h1
  generalize tz 64 x = t at *
  have hp : 0 < 2 ^ t := Nat.pow_pos (by decide)
  have e1 : x = 2 ^ t * (2 * q + 1) + 0 := by omega
  have e2 : x - 1 = 2 ^ t * (2 * q) + (2 ^ t - 1) := by
    rw [hq, Nat.mul_add, Nat.mul_one]
    omega
  have t1 := Nat.testBit_two_pow_mul_add (2 * q + 1) (b := 0) (i := t) hp j
  have t2 := Nat.testBit_two_pow_mul_add (2 * q) (b := 2 ^ t - 1) (i := t) (by omega) j
  rw [← e1] at t1
  rw [← e2] at t2
  rw [Nat.testBit_and, t1, t2]
  by_cases hj : j < t
  · rw [if_pos hj, if_pos hj, Nat.zero_testBit]
    rfl
  · rw [if_neg hj, if_neg hj]
    cases hk : j - t with
    | zero =>
      have : j = t := by omega
      rw [this]
      simp
    | succ k =>
      have : j ≠ t := by omega
      have a1 : (2 * q + 1).testBit (k + 1) = q.testBit k := by
        rw [Nat.testBit_succ, show (2 * q + 1) / 2 = q by omega]
      have a2 : (2 * q).testBit (k + 1) = q.testBit k := by
        rw [Nat.testBit_succ, show (2 * q) / 2 = q by omega]
      rw [a1, a2, decide_eq_true this]
      simp
theorem range_filter {p q : Nat → Bool} {t : Nat} (hp : p t = true) (hlt : ∀ j, j < t → p j = false) (hq : ∀ j, q j = (p j && decide (j ≠ t))) : ∀ n, t < n → (List.range n).filter p = t :: (List.range n).filter q := by
  have none : ∀ (f : Nat → Bool) (n : Nat), (∀ j, j < n → f j = false) → (List.range n).filter f = [] := fun f n h => by
    rw [List.filter_eq_nil_iff]
    intro a ha
    rw [h a (List.mem_range.1 ha)]
    decide
  intro n
  induction n with
  | zero => intro h; omega
  | succ n ih =>
    intro h
    rw [List.range_succ, List.filter_append, List.filter_append]
    by_cases e : t = n
    · subst e
      rw [none p t hlt, none q t fun j hj => by rw [hq, hlt j hj]; rfl, List.filter_cons_of_pos hp, List.filter_cons_of_neg (by rw [hq]; simp)]
      rfl
    · rw [ih (by omega)]
      have : q n = p n := by rw [hq, decide_eq_true (by omega)]; simp
      rw [List.cons_append]
      congr 2
      rw [List.filter_cons, List.filter_cons, this]
      rfl
/-- The numbers of one part, rising. -/
def bitsL (a : Int) (x : Nat) : List Int := ((List.range 64).filter fun i => x.testBit i).map fun i => a * 64 + ((i : Nat) : Int)
theorem bitsL_zero (a : Int) : bitsL a 0 = [] := by
  unfold bitsL
  rw [List.filter_eq_nil_iff.2 fun i _ => by rw [Nat.zero_testBit]; decide]
  rfl
theorem bitsL_step (a : Int) {x : Nat} (h0 : 0 < x) (h1 : x < 2 ^ 64) : bitsL a x = (a * 64 + ((tz 64 x : Nat) : Int)) :: bitsL a (x &&& (x - 1)) := by
  obtain ⟨ht, _⟩ := tz_spec 64 x h0 h1
  obtain ⟨b1, b2⟩ := tz_bit 64 x h0 h1
  unfold bitsL
  rw [range_filter (p := fun i => x.testBit i) (q := fun i => (x &&& (x - 1)).testBit i) b1 b2 (and_pred h0 h1) 64 ht]
  rfl
theorem bitsL_len (a : Int) (x : Nat) : (bitsL a x).length ≤ 64 := by
  unfold bitsL
  rw [List.length_map]
  exact Nat.le_trans (List.length_filter_le _ _) (by rw [List.length_range]; exact Nat.le_refl _)
theorem bitsL_mem {a n : Int} {x : Nat} : n ∈ bitsL a x ↔ n / 64 = a ∧ x.testBit (n % 64).toNat = true := by
  unfold bitsL
  rw [List.mem_map]
  constructor
  · rintro ⟨i, hi, rfl⟩
    rw [List.mem_filter, List.mem_range] at hi
    refine ⟨by omega, ?_⟩
    have : ((a * 64 + (i : Int)) % 64).toNat = i := by omega
    rw [this]
    exact hi.2
  · rintro ⟨rfl, h⟩
    refine ⟨(n % 64).toNat, List.mem_filter.2 ⟨List.mem_range.2 (by omega), h⟩, by omega⟩
theorem bitsL_rise (a : Int) (x : Nat) : (bitsL a x).Pairwise (· < ·) := by
  unfold bitsL
  rw [List.pairwise_map]
  refine List.Pairwise.filter _ (List.Pairwise.imp ?_ List.pairwise_lt_range)
  intro i j h
  omega
theorem bitsL_pc (a : Int) (x : Nat) : (bitsL a x).length = pc 64 x := by
  unfold bitsL
  rw [List.length_map, pc_bits]
  generalize List.range 64 = l
  induction l with
  | nil => rfl
  | cons i l ih =>
    rw [List.filter_cons, List.map_cons, List.sum_cons]
    cases h : x.testBit i with
    | true => rw [if_pos rfl, List.length_cons, ih, Bool.toNat_true]; omega
    | false => rw [if_neg (by decide), ih, Bool.toNat_false]; omega
end Go.Proofs.YtmcflglkfgnbbaaDoor.Bl

/- The types. -/
namespace Go.Proofs.YtmcflglkfgnbbaaDoor.Sp
open Go Go.RowKit Go.Proofs.YtmcflglkfgnbbaaDoor.Eng
set_option linter.unusedVariables false
def tt : Nat → Option TI
  | 3 => some ⟨false, 1, 8, [.v (.int .i64 0)], [], none, false, false, some .i64⟩
  | 4 => some ⟨false, 1, 1, [.v (.bool false)], [], none, true, false, none⟩
  | 5 => some ⟨false, 1, 1, [.v (.int .u8 0)], [], none, false, false, some .u8⟩
  | 52 => some ⟨false, 1, 8, [.v (.int .u64 0)], [], none, false, false, some .u64⟩
  | 69 => some ⟨true, 64, 64, [.v (.int .u8 0), .v (.int .u8 0), .v (.int .u8 0), .v (.int .u8 0), .v (.int .u8 0), .v (.int .u8 0), .v (.int .u8 0), .v (.int .u8 0), .v (.int .u8 0), .v (.int .u8 0), .v (.int .u8 0), .v (.int .u8 0), .v (.int .u8 0), .v (.int .u8 0), .v (.int .u8 0), .v (.int .u8 0), .v (.int .u8 0), .v (.int .u8 0), .v (.int .u8 0), .v (.int .u8 0), .v (.int .u8 0), .v (.int .u8 0), .v (.int .u8 0), .v (.int .u8 0), .v (.int .u8 0), .v (.int .u8 0), .v (.int .u8 0), .v (.int .u8 0), .v (.int .u8 0), .v (.int .u8 0), .v (.int .u8 0), .v (.int .u8 0), .v (.int .u8 0), .v (.int .u8 0), .v (.int .u8 0), .v (.int .u8 0), .v (.int .u8 0), .v (.int .u8 0), .v (.int .u8 0), .v (.int .u8 0), .v (.int .u8 0), .v (.int .u8 0), .v (.int .u8 0), .v (.int .u8 0), .v (.int .u8 0), .v (.int .u8 0), .v (.int .u8 0), .v (.int .u8 0), .v (.int .u8 0), .v (.int .u8 0), .v (.int .u8 0), .v (.int .u8 0), .v (.int .u8 0), .v (.int .u8 0), .v (.int .u8 0), .v (.int .u8 0), .v (.int .u8 0), .v (.int .u8 0), .v (.int .u8 0), .v (.int .u8 0), .v (.int .u8 0), .v (.int .u8 0), .v (.int .u8 0), .v (.int .u8 0)], [], none, false, false, none⟩
  | 70 => some ⟨false, 1, 8, [.v (.int .u64 0)], [], none, false, false, some .u64⟩
  | _ => none
theorem tt3 : ∀ t, tt 3 = some t → TIok Tryd.prog 3 t := by
  intro t h
  cases h
  have hu : (Tryd.prog.underlying 3).isSome = true := by kernel_rfl
  have hi : (Tryd.prog.info? 3).isSome = true := by kernel_rfl
  have hz : ((Tryd.prog.info? 3).get hi).zero.isSome = true := by kernel_rfl
  exact ⟨⟨(Tryd.prog.underlying 3).get hu, (Tryd.prog.info? 3).get hi, ((Tryd.prog.info? 3).get hi).zero.get hz, (Option.some_get hu).symm, (Option.some_get hi).symm, (Option.some_get hz).symm, by kernel_rfl, by kernel_rfl, by kernel_rfl, by kernel_rfl, by kernel_rfl, fun h => absurd rfl h, fun e h => (by cases h), fun h => (by cases h), fun h => (by cases h), fun k h => (by cases h; kernel_rfl)⟩⟩
theorem tt4 : ∀ t, tt 4 = some t → TIok Tryd.prog 4 t := by
  intro t h
  cases h
  have hu : (Tryd.prog.underlying 4).isSome = true := by kernel_rfl
  have hi : (Tryd.prog.info? 4).isSome = true := by kernel_rfl
  have hz : ((Tryd.prog.info? 4).get hi).zero.isSome = true := by kernel_rfl
  exact ⟨⟨(Tryd.prog.underlying 4).get hu, (Tryd.prog.info? 4).get hi, ((Tryd.prog.info? 4).get hi).zero.get hz, (Option.some_get hu).symm, (Option.some_get hi).symm, (Option.some_get hz).symm, by kernel_rfl, by kernel_rfl, by kernel_rfl, by kernel_rfl, by kernel_rfl, fun h => absurd rfl h, fun e h => (by cases h), fun _ => (by kernel_rfl), fun h => (by cases h), fun k h => (by cases h)⟩⟩
theorem tt5 : ∀ t, tt 5 = some t → TIok Tryd.prog 5 t := by
  intro t h
  cases h
  have hu : (Tryd.prog.underlying 5).isSome = true := by kernel_rfl
  have hi : (Tryd.prog.info? 5).isSome = true := by kernel_rfl
  have hz : ((Tryd.prog.info? 5).get hi).zero.isSome = true := by kernel_rfl
  exact ⟨⟨(Tryd.prog.underlying 5).get hu, (Tryd.prog.info? 5).get hi, ((Tryd.prog.info? 5).get hi).zero.get hz, (Option.some_get hu).symm, (Option.some_get hi).symm, (Option.some_get hz).symm, by kernel_rfl, by kernel_rfl, by kernel_rfl, by kernel_rfl, by kernel_rfl, fun h => absurd rfl h, fun e h => (by cases h), fun h => (by cases h), fun h => (by cases h), fun k h => (by cases h; kernel_rfl)⟩⟩
theorem tt52 : ∀ t, tt 52 = some t → TIok Tryd.prog 52 t := by
  intro t h
  cases h
  have hu : (Tryd.prog.underlying 52).isSome = true := by kernel_rfl
  have hi : (Tryd.prog.info? 52).isSome = true := by kernel_rfl
  have hz : ((Tryd.prog.info? 52).get hi).zero.isSome = true := by kernel_rfl
  exact ⟨⟨(Tryd.prog.underlying 52).get hu, (Tryd.prog.info? 52).get hi, ((Tryd.prog.info? 52).get hi).zero.get hz, (Option.some_get hu).symm, (Option.some_get hi).symm, (Option.some_get hz).symm, by kernel_rfl, by kernel_rfl, by kernel_rfl, by kernel_rfl, by kernel_rfl, fun h => absurd rfl h, fun e h => (by cases h), fun h => (by cases h), fun h => (by cases h), fun k h => (by cases h; kernel_rfl)⟩⟩
theorem tt69 : ∀ t, tt 69 = some t → TIok Tryd.prog 69 t := by
  intro t h
  cases h
  have hu : (Tryd.prog.underlying 69).isSome = true := by kernel_rfl
  have hi : (Tryd.prog.info? 69).isSome = true := by kernel_rfl
  have hz : ((Tryd.prog.info? 69).get hi).zero.isSome = true := by kernel_rfl
  exact ⟨⟨(Tryd.prog.underlying 69).get hu, (Tryd.prog.info? 69).get hi, ((Tryd.prog.info? 69).get hi).zero.get hz, (Option.some_get hu).symm, (Option.some_get hi).symm, (Option.some_get hz).symm, by kernel_rfl, by kernel_rfl, by kernel_rfl, by kernel_rfl, by kernel_rfl, fun h => absurd rfl h, fun e h => (by cases h), fun h => (by cases h), fun h => (by cases h), fun k h => (by cases h)⟩⟩
theorem tt70 : ∀ t, tt 70 = some t → TIok Tryd.prog 70 t := by
  intro t h
  cases h
  have hu : (Tryd.prog.underlying 70).isSome = true := by kernel_rfl
  have hi : (Tryd.prog.info? 70).isSome = true := by kernel_rfl
  have hz : ((Tryd.prog.info? 70).get hi).zero.isSome = true := by kernel_rfl
  exact ⟨⟨(Tryd.prog.underlying 70).get hu, (Tryd.prog.info? 70).get hi, ((Tryd.prog.info? 70).get hi).zero.get hz, (Option.some_get hu).symm, (Option.some_get hi).symm, (Option.some_get hz).symm, by kernel_rfl, by kernel_rfl, by kernel_rfl, by kernel_rfl, by kernel_rfl, fun h => absurd rfl h, fun e h => (by cases h), fun h => (by cases h), fun h => (by cases h), fun k h => (by cases h; kernel_rfl)⟩⟩
theorem tab : Tab Tryd.prog tt := by
  intro T t h
  have h0 := h
  unfold tt at h
  split at h
  · exact tt3 t h0
  · exact tt4 t h0
  · exact tt5 t h0
  · exact tt52 t h0
  · exact tt69 t h0
  · exact tt70 t h0
  cases h
end Go.Proofs.YtmcflglkfgnbbaaDoor.Sp

/- Places: the lowest bit. -/
namespace Go.Proofs.YtmcflglkfgnbbaaDoor.Sp
open Go Go.RowKit Go.Proofs.YtmcflglkfgnbbaaDoor.Eng Go.Proofs.YtmcflglkfgnbbaaDoor.Pu
set_option linter.unusedVariables false
set_option linter.unusedSimpArgs false
set_option maxRecDepth 20000
--@ptr
def kk (t : Nat) : Nat := (2 ^ t * 285870213051353865 % 18446744073709551616) / 288230376151711744
def ent (q t : Nat) : Bool := match tab0.toList[q]? with
  | some (.int .u8 x) => x == (t : Int)
  | _ => false
theorem ent_ok {q t : Nat} (h : ent q t = true) : tab0[q]? = some (.int .u8 (t : Int)) := by
  unfold ent at h
  rw [← Array.getElem?_toList]
  split at h
  · rename_i x hx
    rw [hx, eq_of_beq h]
  · cases h
theorem kcB_all : ∀ t : Fin 64, ent (kk t.val) t.val = true := by decide +kernel
theorem kc_ok (t : Fin 64) : tab0[kk t.val]? = some (.int .u8 (t.val : Int)) := ent_ok (kcB_all t)
theorem kk_lt : ∀ t : Fin 64, kk t.val < 64 := by decide +kernel
theorem mul_t (t : Fin 64) : IntKind.wrap .u64 (((2 ^ t.val : Nat) : Int) * 285870213051353865) = ((2 ^ t.val * 285870213051353865 % 18446744073709551616 : Nat) : Int) := by
  generalize 2 ^ t.val = z
  show ((z : Int) * 285870213051353865) % 2 ^ 64 = _
  omega
theorem neg_u {y : Nat} (h0 : 0 < y) (h1 : y < 18446744073709551616) : aun .neg (.int .u64 (y : Int)) = some (.int .u64 ((18446744073709551616 - y : Nat) : Int)) := by
  show some (Value.int .u64 (IntKind.wrap .u64 (0 - (y : Int)))) = _
  have : IntKind.wrap .u64 (0 - (y : Int)) = ((18446744073709551616 - y : Nat) : Int) := by
    show (0 - (y : Int)) % 2 ^ 64 = _
    omega
  rw [this]
theorem and_u {y t : Nat} (ht : t = tz 64 y) (h0 : 0 < y) (h1 : y < 18446744073709551616) : abin .and (.int .u64 (y : Int)) (.int .u64 ((18446744073709551616 - y : Nat) : Int)) = some (.int .u64 ((2 ^ t : Nat) : Int)) := by
  show some (Value.int .u64 (IntKind.wrap .u64 _)) = _
  have := and_k (a := y) (b := 18446744073709551616 - y) h1 (by omega)
  rw [ht]
  rw [this]
  have h2 := and_neg y h0 (by rw [lt64]; exact h1)
  rw [lt64] at h2
  rw [h2]
theorem mul_u {t : Nat} (h : t < 64) : abin .mul (.int .u64 ((2 ^ t : Nat) : Int)) (.int .u64 285870213051353865) = some (.int .u64 ((2 ^ t * 285870213051353865 % 18446744073709551616 : Nat) : Int)) := by
  show some (Value.int .u64 (IntKind.wrap .u64 _)) = _
  rw [mul_t ⟨t, h⟩]
theorem shr_u {t : Nat} (h : t < 64) : abin .shr (.int .u64 ((2 ^ t * 285870213051353865 % 18446744073709551616 : Nat) : Int)) (.int .u64 58) = some (.int .u64 ((kk t : Nat) : Int)) := by
  show (if (58 : Int) < 0 then none else some (Value.int .u64 _)) = _
  rw [if_neg (by decide), shr_k _ 58 (by decide) (by decide)]
  rfl
theorem tz_all {y t : Nat} (h0 : 0 < y) (h1 : y < 18446744073709551616) (ht : t = tz 64 y) (hl : t < 64) : HCall Tryd.prog 32 [] [.v (.int .u64 (y : Int))] [] (.v (.int .i64 (t : Int))) := by
  refine HCall.of Tryd.func32 rfl (by decide +kernel) (Nat.le_of_ble_eq_true rfl) ?_
  apply seq_region
  case hc =>
    apply ChainL.of (some 2) rfl rfl
    case h => exact step_assign rfl
    exact .nil
  refine cwp_seq ?_
  refine cwp_seq ?_
  apply one_region
  case hc =>
    apply ChainL.of (some 3) rfl rfl
    case h => exact step_move rfl
    apply ChainL.of (some 4) rfl rfl
    case h => (first | exact w_bin rfl rfl rfl (eql_t (by omega)) | exact w_bin rfl rfl rfl (eql_f (by omega)) | exact w_bin rfl rfl rfl rfl)
    exact .nil
  show Cwp _ _ _ _
  refine cond_f rfl ?_
  refine cwp_skip ?_
  show Cwp _ _ _ _
  apply seq_region
  case hc =>
    apply ChainL.of (some 5) rfl rfl
    case h => exact step_move rfl
    apply ChainL.of (some 6) rfl rfl
    case h => exact step_move rfl
    apply ChainL.of (some 7) rfl rfl
    case h => exact w_un (v := .int .u64 ((18446744073709551616 - y : Nat) : Int)) rfl rfl (neg_u h0 h1)
    apply ChainL.of (some 8) rfl rfl
    case h => exact w_bin (v := .int .u64 ((2 ^ t : Nat) : Int)) rfl rfl rfl (and_u ht h0 h1)
    apply ChainL.of (some 9) rfl rfl
    case h => exact w_bin (v := .int .u64 ((2 ^ t * 285870213051353865 % 18446744073709551616 : Nat) : Int)) rfl rfl rfl (mul_u hl)
    apply ChainL.of (some 10) rfl rfl
    case h => exact w_bin (v := .int .u64 ((kk t : Nat) : Int)) rfl rfl rfl (shr_u hl)
    apply ChainL.of (some 11) rfl rfl
    case h => exact w_index_tab (T := 69) (n := 64) (e := 5) (i := ((kk t : Nat) : Int)) (q := kk t) (by kernel_rfl) (by kernel_rfl) rfl rfl rfl (Int.natCast_nonneg _) (by have := kk_lt ⟨t, hl⟩; dsimp only at this; omega) (Int.toNat_natCast _)
    apply ChainL.of (some 12) rfl rfl
    case h => exact w_load_tab tab rfl rfl rfl rfl (.head _) (v := .int .u8 (t : Int)) (kc_ok ⟨t, hl⟩)
    apply ChainL.of (some 13) rfl rfl
    case h => exact w_conv tab rfl rfl rfl rfl rfl (wrap_i64 (by omega) (by omega))
    apply ChainL.of (some 2) rfl rfl
    case h => exact step_assign rfl
    exact .nil
  exact cwp_ret ⟨.inl rfl, resH_one rfl (by kernel_rfl), fun i x h => by simp at h⟩
end Go.Proofs.YtmcflglkfgnbbaaDoor.Sp


/- The numbers of a set, one by one: the iterator. -/
namespace Go.Proofs.YtmcflglkfgnbbaaDoor.Bl
open Go Go.RowKit Go.Shelf Go.Proofs.YtmcflglkfgnbbaaDoor.Pu Go.Proofs.YtmcflglkfgnbbaaDoor.Eng
attribute [local go_sem] Oper.semAt_some
set_option linter.unusedVariables false
set_option linter.unusedSimpArgs false
/-- The lowest bit, as its contract in the small logic tells it. -/
theorem tz_in (n : Nat) (y : Nat) (h0 : 0 < y) (h1 : y < 18446744073709551616) (FF : Nat → Prop) (w : World) (hF : ∀ b, FF b → b < w.heap.size) (hT : TabsOk FF w) :
    CallsIn Fence.wide n Tryd.prog 32 #[.int .u64 (y : Int)] w fun e w' => e = .returned (.int .i64 ((tz 64 y : Nat) : Int)) ∧ w.grownBy w' none := by
  refine callsIn_wide.2 ?_
  have hl := (tz_spec 64 y h0 (by rw [lt64]; exact h1)).1
  refine (Sp.tz_all h0 h1 rfl hl (clo FF) w [.int .u64 (y : Int)] ⟨hT, hF, fun i o hi => by simp at hi, fun _ _ => rfl, fun i j o o' b hi => by simp at hi⟩ (.cons (.v _) .nil)).mono fun e w' ⟨v, g', he, hv, hp⟩ => ?_
  obtain rfl := rep_v hv
  exact ⟨he, ⟨hp.os, hp.tape, hp.output, hp.hsize, fun k hk _ => hp.base k hk fun ⟨i, o, hi, _⟩ => by simp at hi⟩⟩
set_option maxRecDepth 100000 in
set_option maxHeartbeats 1000000 in
/-- s.All(): the set is boxed; the function value captures the box. -/
theorem all_in (n : Nat) (x : Value) (w : World) :
    CallsIn Fence.wide n Tryd.prog 8 #[.agg #[x]] w fun e w' => e = .returned (.func (.func 31) #[] #[.pointer (some ⟨w.heap.size, 0, none⟩)]) ∧ w' = w.alloc (.cells #[x] 25) := by
  refine callsIn_of_wp Tryd.func8 rfl trivial ?_ rfl
  simp only [Tryd.ntmps8, List.size_toArray, List.length_cons, List.length_nil, Nat.reduceAdd, Nat.reduceSub, Array.replicate_succ, Array.replicate_zero, List.push_toArray, List.append_toArray, List.nil_append, List.cons_append]
  gi_wp2
  go_ret
  exact ⟨rfl, rfl⟩
end Go.Proofs.YtmcflglkfgnbbaaDoor.Bl

