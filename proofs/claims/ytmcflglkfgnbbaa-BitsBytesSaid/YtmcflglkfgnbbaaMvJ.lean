/- Texts of this claim, put together: part 10. -/
import Derived.Test.YtmcflglkfgnbbaaMvI
/- Sets as bytes: the document's. -/
namespace Go.Proofs.Ytmcflglkfgnbbaa.Bt
open Go Go.RowKit Go.Proofs.Ytmcflglkfgnbbaa.Eng Go.Proofs.Ytmcflglkfgnbbaa.Nd
set_option linter.unusedVariables false
set_option linter.unusedSimpArgs false
set_option maxRecDepth 20000
/-- A number of 64 bits: not looked into. -/
def PU (n : Int) : Prop := U64 n
noncomputable instance (n : Int) : Decidable (PU n) := Classical.propDecidable _
noncomputable def sNumX : Spc U := .of du64 (fun n => PU n) (fun _ => []) fun n => .v (.string (numB n))
theorem sNumX_ok : SpecOk Try.prog 58 sNumX := by
  refine SpecOk.of sNumR_ok fun objs args n hx hp => ?_
  unfold sNumR Spc.of
  dsimp only
  rw [hx]
  exact if_pos hp
noncomputable def E30 : FuncId → Option (Spc U)
  | 58 => some sNumX
  | 67 => some sFixR
  | _ => none
theorem E30_ok : ∀ f S, E30 f = some S → SpecOk Try.prog f S := fun f S h => by
  unfold E30 at h
  split at h
  · cases h; exact sNumX_ok
  · cases h; exact sFixR_ok
  · cases h
def an30 : Ann := ⟨fun | 0 => 57 | 2 => 472 | _ => 0, fun | 0 => 28 | 2 => 68 | _ => 0, fun _ => [], false⟩
def g30_S0 (l : List
  Int) (v1 : Int) (v2 : List
  (T
    C.i64)) (v3 : List
  (T
    C.u64)) : TS U := mkS 92 [(0, TV.lst C.i64 l), (3, TV.full 0), (4, TV.full 1), (5, TV.v (Value.int IntKind.i64 v1))]
  [TO.row C.i64 v2 false, TO.row C.u64 v3 false] 0
theorem g30_e0 (lp : Lp
  U) (l : List
  Int) (N : Nat) (v1 : Int) (v2 : List
  (T C.i64)) (v3 : List (T C.u64)) : fnLoop X E30 an30 lp Try.f30 0 N.succ (g30_S0 l v1 v2 v3) =
  bif decide (v1 < (↑l.length : Int)) then
  bif decide ((↑v2.length : Int) = 0) then
    (getI l v1).bind fun (z : X.U.T C.i64) =>
      if (v2.length + 1) * 8 ≤ 140737488355328 then
        if (v3.length + 1) * 8 ≤ 140737488355328 then
          if
              0 ≤ IntKind.i64.wrap ((↑(v3 ++ [0]).length : Int) - 1) ∧
                IntKind.i64.wrap ((↑(v3 ++ [0]).length : Int) - 1) < (↑(v3 ++ [0]).length : Int) then
            (v3 ++ [0])[(IntKind.i64.wrap ((↑(v3 ++ [0]).length : Int) - 1)).toNat]?.bind fun (y : X.U.T C.u64) =>
              (getI l v1).bind fun (z_1 : X.U.T C.i64) =>
                if IntKind.u64.wrap (Int.tmod z_1 64) < 0 then none
                else
                  if
                      0 ≤ IntKind.i64.wrap ((↑(v3 ++ [0]).length : Int) - 1) ∧
                        IntKind.i64.wrap ((↑(v3 ++ [0]).length : Int) - 1) < (↑(v3 ++ [0]).length : Int) then
                    (v3 ++ [0])[(IntKind.i64.wrap ((↑(v3 ++ [0]).length : Int) - 1)).toNat]?.bind
                      fun (z_2 : X.U.T C.u64) =>
                      fnLoop X E30 an30 lp Try.f30 0 N
                        (g30_S0 l (IntKind.i64.wrap (v1 + 1)) (v2 ++ [IntKind.i64.wrap (Int.tdiv z 64)])
                          ((v3 ++ [0]).set (IntKind.i64.wrap ((↑(v3 ++ [0]).length : Int) - 1)).toNat
                            (IntKind.u64.wrap
                              (y +
                                IntKind.u64.wrap
                                  (1 * 2 ^ min (IntKind.u64.wrap (Int.tmod z_1 64)).toNat IntKind.u64.bits)))))
                  else none
          else none
        else none
      else none
  else
    if
        0 ≤ IntKind.i64.wrap ((↑v2.length : Int) - 1) ∧
          IntKind.i64.wrap ((↑v2.length : Int) - 1) < (↑v2.length : Int) then
      v2[(IntKind.i64.wrap ((↑v2.length : Int) - 1)).toNat]?.bind fun (y : X.U.T C.i64) =>
        (getI l v1).bind fun (z : X.U.T C.i64) =>
          bif !decide (y = IntKind.i64.wrap (Int.tdiv z 64)) then
            (getI l v1).bind fun (z : X.U.T C.i64) =>
              if (v2.length + 1) * 8 ≤ 140737488355328 then
                if (v3.length + 1) * 8 ≤ 140737488355328 then
                  if
                      0 ≤ IntKind.i64.wrap ((↑(v3 ++ [0]).length : Int) - 1) ∧
                        IntKind.i64.wrap ((↑(v3 ++ [0]).length : Int) - 1) < (↑(v3 ++ [0]).length : Int) then
                    (v3 ++ [0])[(IntKind.i64.wrap ((↑(v3 ++ [0]).length : Int) - 1)).toNat]?.bind
                      fun (y : X.U.T C.u64) =>
                      (getI l v1).bind fun (z_1 : X.U.T C.i64) =>
                        if IntKind.u64.wrap (Int.tmod z_1 64) < 0 then none
                        else
                          if
                              0 ≤ IntKind.i64.wrap ((↑(v3 ++ [0]).length : Int) - 1) ∧
                                IntKind.i64.wrap ((↑(v3 ++ [0]).length : Int) - 1) < (↑(v3 ++ [0]).length : Int) then
                            (v3 ++ [0])[(IntKind.i64.wrap ((↑(v3 ++ [0]).length : Int) - 1)).toNat]?.bind
                              fun (z_2 : X.U.T C.u64) =>
                              fnLoop X E30 an30 lp Try.f30 0 N
                                (g30_S0 l (IntKind.i64.wrap (v1 + 1)) (v2 ++ [IntKind.i64.wrap (Int.tdiv z 64)])
                                  ((v3 ++ [0]).set (IntKind.i64.wrap ((↑(v3 ++ [0]).length : Int) - 1)).toNat
                                    (IntKind.u64.wrap
                                      (y +
                                        IntKind.u64.wrap
                                          (1 * 2 ^ min (IntKind.u64.wrap (Int.tmod z_1 64)).toNat IntKind.u64.bits)))))
                          else none
                  else none
                else none
              else none
          else
            if
                0 ≤ IntKind.i64.wrap ((↑v3.length : Int) - 1) ∧
                  IntKind.i64.wrap ((↑v3.length : Int) - 1) < (↑v3.length : Int) then
              v3[(IntKind.i64.wrap ((↑v3.length : Int) - 1)).toNat]?.bind fun (y : X.U.T C.u64) =>
                (getI l v1).bind fun (z : X.U.T C.i64) =>
                  if IntKind.u64.wrap (Int.tmod z 64) < 0 then none
                  else
                    if
                        0 ≤ IntKind.i64.wrap ((↑v3.length : Int) - 1) ∧
                          IntKind.i64.wrap ((↑v3.length : Int) - 1) < (↑v3.length : Int) then
                      v3[(IntKind.i64.wrap ((↑v3.length : Int) - 1)).toNat]?.bind fun (z_1 : X.U.T C.u64) =>
                        fnLoop X E30 an30 lp Try.f30 0 N
                          (g30_S0 l (IntKind.i64.wrap (v1 + 1)) v2
                            (v3.set (IntKind.i64.wrap ((↑v3.length : Int) - 1)).toNat
                              (IntKind.u64.wrap
                                (y +
                                  IntKind.u64.wrap
                                    (1 * 2 ^ min (IntKind.u64.wrap (Int.tmod z 64)).toNat IntKind.u64.bits)))))
                    else none
            else none
    else none
else
  some
    (Exit.exit 0,
      mkS 92 [(3, TV.full 0), (4, TV.full 1)] [TO.row C.i64 v2 false, TO.row C.u64 v3 false] 0) := by kernel_rfl
/-! ### One set has one row of parts -/
theorem sorted_eq {α : Type} {r : α → α → Prop} (hirr : ∀ a, ¬ r a a) (htr : ∀ a b c, r a b → r b c → r a c) : ∀ {l m : List α}, l.Pairwise r → m.Pairwise r → (∀ x, x ∈ l ↔ x ∈ m) → l = m
  | [], [], _, _, _ => rfl
  | [], y :: m, _, _, h => absurd ((h y).2 List.mem_cons_self) (by simp)
  | x :: l, [], _, _, h => absurd ((h x).1 List.mem_cons_self) (by simp)
  | x :: l, y :: m, hl, hm, h => by
    obtain ⟨l1, l2⟩ := List.pairwise_cons.1 hl
    obtain ⟨m1, m2⟩ := List.pairwise_cons.1 hm
    have exy : x = y := by
      rcases List.mem_cons.1 ((h x).1 List.mem_cons_self) with e | e
      · exact e
      · rcases List.mem_cons.1 ((h y).2 List.mem_cons_self) with e2 | e2
        · exact e2.symm
        · exact absurd (htr _ _ _ (l1 y e2) (m1 x e)) (hirr x)
    subst exy
    rw [sorted_eq hirr htr l2 m2 fun z => ⟨fun hz => (List.mem_cons.1 ((h z).1 (List.mem_cons_of_mem _ hz))).elim (fun e => absurd (l1 z hz) (by rw [e]; exact hirr x)) id, fun hz => (List.mem_cons.1 ((h z).2 (List.mem_cons_of_mem _ hz))).elim (fun e => absurd (m1 z hz) (by rw [e]; exact hirr x)) id⟩]
theorem bit_ex {b : Int} (h0 : 0 < b) (h1 : b < 18446744073709551616) : ∃ i, i < 64 ∧ bitP b i = true := by
  obtain ⟨b, rfl⟩ := Int.eq_ofNat_of_zero_le (Int.le_of_lt h0)
  have hb : b ≠ 0 := by omega
  obtain ⟨i, hi⟩ := Nat.exists_testBit_of_ne_zero hb
  refine ⟨i, ?_, hi⟩
  by_cases h : i < 64
  · exact h
  · exfalso
    have hlt : b < 2 ^ i := Nat.lt_of_lt_of_le (by omega : b < 2 ^ 64) (Nat.pow_le_pow_right (by decide) (by omega))
    rw [Nat.testBit_lt_two_pow hlt] at hi
    cases hi
theorem bits_eq {a b : Int} (ha : 0 < a ∧ a < 18446744073709551616) (hb : 0 < b ∧ b < 18446744073709551616) (h : ∀ i, i < 64 → bitP a i = bitP b i) : a = b := by
  obtain ⟨a, rfl⟩ := Int.eq_ofNat_of_zero_le (Int.le_of_lt ha.1)
  obtain ⟨b, rfl⟩ := Int.eq_ofNat_of_zero_le (Int.le_of_lt hb.1)
  congr 1
  apply Nat.eq_of_testBit_eq
  intro i
  by_cases hi : i < 64
  · exact h i hi
  · have h1 : ∀ c : Nat, c < 18446744073709551616 → c.testBit i = false := fun c hc => Nat.testBit_lt_two_pow (Nat.lt_of_lt_of_le (by omega : c < 2 ^ 64) (Nat.pow_le_pow_right (by decide) (by omega)))
    rw [h1 a (by omega), h1 b (by omega)]
theorem at_uniq {ps : List R100} (h : RiseP ps) {p q : R100} (hp : p ∈ ps) (hq : q ∈ ps) (e : p.At = q.At) : p = q := by
  obtain ⟨i, hi, rfl⟩ := List.mem_iff_getElem.1 hp
  obtain ⟨j, hj, rfl⟩ := List.mem_iff_getElem.1 hq
  have h1 := rk_at h (List.getElem?_eq_getElem hi)
  have h2 := rk_at h (List.getElem?_eq_getElem hj)
  rw [e] at h1
  have : i = j := by omega
  subst this
  rfl
theorem sub_of {ps qs : List R100} (h : OkP ps) (k : OkP qs) (he : ∀ n, 0 ≤ n → hasP ps n = hasP qs n) : ∀ p, p ∈ ps → p ∈ qs := fun p hp => by
  obtain ⟨⟨a0, a1⟩, b0, b1⟩ := h.2 p hp
  have at_ : ∀ i : Nat, i < 64 → (p.At * 64 + i) / 64 = p.At ∧ ((p.At * 64 + i) % 64).toNat = i := fun i hi => by omega
  obtain ⟨i, hi, hb⟩ := bit_ex b0 b1
  have h1 : hasP ps (p.At * 64 + i) = true := (has_iff h.1 _).2 ⟨p, hp, (at_ i hi).1.symm, by rw [(at_ i hi).2]; exact hb⟩
  rw [he _ (by omega)] at h1
  obtain ⟨q, hq, e1, e2⟩ := (has_iff k.1 _).1 h1
  rw [(at_ i hi).1] at e1
  obtain ⟨_, c0, c1⟩ := k.2 q hq
  have hbits : p.Bits = q.Bits := bits_eq ⟨b0, b1⟩ ⟨c0, c1⟩ fun j hj => by
    have hh := he (p.At * 64 + j) (by omega)
    have f : ∀ {rs : List R100}, RiseP rs → ∀ r ∈ rs, r.At = p.At → hasP rs (p.At * 64 + j) = bitP r.Bits j := fun {rs} hr r hrm hra => by
      apply Bool.eq_iff_iff.2
      rw [has_iff hr, (at_ j hj).1, (at_ j hj).2]
      constructor
      · rintro ⟨r', hr', e3, e4⟩
        rw [at_uniq hr hrm hr' (hra.trans e3.symm)]
        exact e4
      · intro e4
        exact ⟨r, hrm, hra, e4⟩
    rw [f h.1 p hp rfl, f k.1 q hq e1] at hh
    exact hh
  have : p = q := by
    cases p; cases q
    dsimp only at e1 hbits
    rw [e1, hbits]
  rw [this]
  exact hq
theorem parts_eq {ps qs : List R100} (h : OkP ps) (k : OkP qs) (he : ∀ n, 0 ≤ n → hasP ps n = hasP qs n) : ps = qs :=
  sorted_eq (r := fun a b : R100 => a.At < b.At) (fun a h => by omega) (fun a b c h1 h2 => by omega) h.1 k.1 fun p => ⟨sub_of h k he p, sub_of k h (fun n hn => (he n hn).symm) p⟩
theorem rel_uniq {ps qs : List R100} {l : List Int} (h : RelP ps l) (k : RelP qs l) : ps = qs :=
  parts_eq h.1 k.1 fun n hn => by
    apply Bool.eq_iff_iff.2
    rw [← h.2.2.2 n hn, ← k.2.2.2 n hn]
end Go.Proofs.Ytmcflglkfgnbbaa.Bt

/- Sets as bytes: the document's bytes are the program's. -/
namespace Go.Proofs.Ytmcflglkfgnbbaa.Bt
open Go Go.RowKit Go.Proofs.Ytmcflglkfgnbbaa.Eng Go.Proofs.Ytmcflglkfgnbbaa.Nd
set_option linter.unusedVariables false
set_option linter.unusedSimpArgs false
set_option maxRecDepth 20000
/-- A number's bit added. -/
def addB (y z : Int) : Int := IntKind.u64.wrap (y + IntKind.u64.wrap (1 * 2 ^ min (IntKind.u64.wrap (z.tmod 64)).toNat IntKind.u64.bits))
theorem addB_nat (b n : Nat) (hb : b < 2 ^ (n % 64)) : addB (b : Int) (n : Int) = orB b n := by
  have hlt : n % 64 < 64 := Nat.mod_lt _ (by decide)
  have e64 : (2 : Nat) ^ 64 = 18446744073709551616 := by decide
  have hp : 2 ^ (n % 64) < 2 ^ 64 := Nat.pow_lt_pow_right (by decide) hlt
  have hb64 : b < 18446744073709551616 := by rw [← e64]; omega
  obtain ⟨o1, o2⟩ := orB_nat b n hb64
  rw [o1]
  have hor : b ||| 2 ^ (n % 64) = b + 2 ^ (n % 64) := by
    have := Nat.two_pow_add_eq_or_of_lt hb 1
    rw [Nat.mul_one] at this
    rw [Nat.or_comm, ← this, Nat.add_comm]
  rw [hor] at o2 ⊢
  have e1 : (IntKind.u64.wrap ((n : Int).tmod 64)).toNat = n % 64 := by
    rw [Int.tmod_eq_emod_of_nonneg (by omega)]
    have : ((n : Int) % 64) = ((n % 64 : Nat) : Int) := by omega
    rw [this]
    have h2 : IntKind.u64.wrap ((n % 64 : Nat) : Int) = ((n % 64 : Nat) : Int) := emod_small _ (by omega)
    rw [h2, Int.toNat_natCast]
  have e2 : min (n % 64) IntKind.u64.bits = n % 64 := Nat.min_eq_left (by show n % 64 ≤ 64; omega)
  have e3 : IntKind.u64.wrap (1 * 2 ^ (n % 64)) = ((2 ^ (n % 64) : Nat) : Int) := by
    have : ((1 : Int) * 2 ^ (n % 64)) = ((2 ^ (n % 64) : Nat) : Int) := by rw [Int.one_mul, Int.natCast_pow]; rfl
    rw [this]
    exact emod_small _ (by rw [← e64]; exact hp)
  unfold addB
  rw [e1, e2, e3]
  have : (b : Int) + ((2 ^ (n % 64) : Nat) : Int) = ((b + 2 ^ (n % 64) : Nat) : Int) := by rw [Int.natCast_add]
  rw [this]
  exact emod_small _ o2
/-- Behind a list of smaller numbers one more. -/
theorem step_last {P : List R100} {xs : List Int} (h : RelP P xs) {z : Int} (h0 : 0 ≤ z) (hM : z < 1048576) (hz : ∀ x ∈ xs, x < z) : ∃ (L : List R100) (b : Int), (P = L ++ [⟨z / 64, b⟩] ∨ P = L ∧ b = 0) ∧ (∀ p ∈ L, p.At < z / 64) ∧ putP P z = L ++ [⟨z / 64, orB b z⟩] ∧ addB b z = orB b z ∧ RelP (putP P z) (xs ++ [z]) := by
  obtain ⟨h1, h2, h3, h4⟩ := h
  obtain ⟨L, R, b, e1, e2, e3, e4⟩ := putP_form h1 z
  have mem_of : ∀ p ∈ P, ∀ i : Nat, i < 64 → bitP p.Bits i = true → p.At * 64 + i < z := fun p hp i hi hb => by
    have hA := (h1.2 p hp).1
    have : hasP P (p.At * 64 + i) = true := (has_iff h1.1 _).2 ⟨p, hp, by omega, by rw [show ((p.At * 64 + (i : Int)) % 64).toNat = i by omega]; exact hb⟩
    exact hz _ ((h4 _ (by omega)).2 this)
  have hR : R = [] := by
    cases R with
    | nil => rfl
    | cons q R =>
      exfalso
      have hq : q ∈ P := by rcases e2 with e2 | ⟨e2, _⟩ <;> rw [e2] <;> simp
      obtain ⟨i, hi, hb⟩ := bit_ex (h1.2 q hq).2.1 (h1.2 q hq).2.2
      have h5 := mem_of q hq i hi hb
      have h6 := e4 q List.mem_cons_self
      omega
  subst hR
  rw [List.append_nil] at e2
  have hb : 0 ≤ b ∧ b < 18446744073709551616 ∧ ∀ i : Nat, i < 64 → bitP b i = true → z / 64 * 64 + i < z := by
    rcases e2 with e2 | ⟨_, rfl⟩
    · have hm : (⟨z / 64, b⟩ : R100) ∈ P := by rw [e2]; simp
      have := h1.2 _ hm
      exact ⟨by have := this.2.1; dsimp only at this; omega, this.2.2, fun i hi hbi => mem_of _ hm i hi hbi⟩
    · refine ⟨by decide, by decide, fun i hi hbi => ?_⟩
      unfold bitP at hbi
      rw [show (0 : Int).toNat = 0 from rfl, Nat.zero_testBit] at hbi
      cases hbi
  obtain ⟨hb0, hb1, hb2⟩ := hb
  refine ⟨L, b, ?_, e3, e1, ?_, ?_⟩
  · rcases e2 with e2 | e2
    · exact .inl e2
    · exact .inr e2
  · obtain ⟨b, rfl⟩ := Int.eq_ofNat_of_zero_le hb0
    obtain ⟨n, rfl⟩ := Int.eq_ofNat_of_zero_le h0
    refine addB_nat b n (Nat.lt_pow_two_of_testBit b fun i hi => ?_)
    by_cases h64 : i < 64
    · cases hbi : b.testBit i with
      | false => rfl
      | true =>
        have := hb2 i h64 hbi
        omega
    · exact Nat.testBit_lt_two_pow (Nat.lt_of_lt_of_le (by omega : b < 2 ^ 64) (Nat.pow_le_pow_right (by decide) (by omega)))
  · obtain ⟨k1, k2⟩ := putP_ok h1 h0 hM
    refine ⟨k1, ?_, fun n hn => ?_, fun m hm => ?_⟩
    · rw [List.pairwise_append]
      exact ⟨h2, by simp, fun x hx y hy => by rw [List.mem_singleton.1 hy]; exact hz x hx⟩
    · rw [List.mem_append, List.mem_singleton] at hn
      rcases hn with hn | rfl
      · exact h3 n hn
      · exact ⟨h0, hM⟩
    · rw [List.mem_append, List.mem_singleton, k2 m hm, h4 m hm]
def mA (P : List R100) : List Int := P.map fun p => p.At
def mB (P : List R100) : List Int := P.map fun p => p.Bits
theorem mA_len (P : List R100) : (mA P).length = P.length := List.length_map _
theorem mB_len (P : List R100) : (mB P).length = P.length := List.length_map _
theorem mA_app (P Q : List R100) : mA (P ++ Q) = mA P ++ mA Q := List.map_append
theorem mB_app (P Q : List R100) : mB (P ++ Q) = mB P ++ mB Q := List.map_append
theorem last_get {α : Type} (l : List α) (x : α) : (l ++ [x])[(IntKind.i64.wrap (((l ++ [x]).length : Int) - 1)).toNat]? = some x ∨ 1000000000 < (l ++ [x]).length := by
  by_cases h : 1000000000 < (l ++ [x]).length
  · exact .inr h
  · refine .inl ?_
    rw [List.length_append, List.length_singleton] at h ⊢
    rw [wr (a := ((l.length + 1 : Nat) : Int) - 1) (by omega) (by omega), show (((l.length + 1 : Nat) : Int) - 1).toNat = l.length by omega, List.getElem?_append_right (Nat.le_refl _), Nat.sub_self]
    rfl
theorem last_set {α : Type} (l : List α) (x y : α) (h : l.length ≤ 1000000) : (l ++ [x]).set (IntKind.i64.wrap (((l ++ [x]).length : Int) - 1)).toNat y = l ++ [y] := by
  rw [List.length_append, List.length_singleton, wr (a := ((l.length + 1 : Nat) : Int) - 1) (by omega) (by omega), show (((l.length + 1 : Nat) : Int) - 1).toNat = l.length by omega, List.set_append_right _ _ (Nat.le_refl _), Nat.sub_self]
  rfl
theorem last_get' {α : Type} (l : List α) (x : α) (h : l.length ≤ 1000000) : (l ++ [x])[(IntKind.i64.wrap (((l ++ [x]).length : Int) - 1)).toNat]? = some x := by
  rcases last_get l x with h1 | h1
  · exact h1
  · rw [List.length_append, List.length_singleton] at h1; omega
theorem last_in {α : Type} (l : List α) (x : α) (h : l.length ≤ 1000000) : 0 ≤ IntKind.i64.wrap (((l ++ [x]).length : Int) - 1) ∧ IntKind.i64.wrap (((l ++ [x]).length : Int) - 1) < ((l ++ [x]).length : Int) := by
  rw [List.length_append, List.length_singleton, wr (a := ((l.length + 1 : Nat) : Int) - 1) (by omega) (by omega)]
  omega
theorem round30 (lp : Lp U) (N : Nat) (l : List Int) (i : Nat) {P : List R100} {xs : List Int} (h : RelP P xs) {z : Int} (h0 : 0 ≤ z) (hM : z < 1048576) (hz : ∀ x ∈ xs, x < z) (hi : (i : Int) < (l.length : Int)) (hl : l.length ≤ 1000000) (hg : getI l i = some z) :
    fnLoop X E30 an30 lp Try.f30 0 (N + 1) (g30_S0 l i (mA P) (mB P)) = fnLoop X E30 an30 lp Try.f30 0 N (g30_S0 l ((i + 1 : Nat) : Int) (mA (putP P z)) (mB (putP P z))) := by
  have hlen := h.1.len
  obtain ⟨L, b, e1, e2, e3, e4, _⟩ := step_last h h0 hM hz
  have hq : IntKind.i64.wrap (z.tdiv 64) = z / 64 := tdiv64 h0 (by omega)
  have ht : ¬ IntKind.u64.wrap (z.tmod 64) < 0 := by have := (u64_wrap (z.tmod 64)).1; omega
  have hw : IntKind.i64.wrap ((i : Int) + 1) = ((i + 1 : Nat) : Int) := wr (a := (i : Int) + 1) (by omega) (by omega)
  have hlL : L.length ≤ 16384 := by
    rcases e1 with e1 | ⟨e1, _⟩ <;> rw [e1] at hlen
    · rw [List.length_append] at hlen; omega
    · exact hlen
  rw [e3]
  refine (g30_e0 lp l N i (mA P) (mB P)).trans ?_
  rw [decide_eq_true hi, cond_true, hg, hw]
  simp only [Option.bind_some]
  rw [hq]
  have new : b = 0 → (mB L ++ [0]).set (IntKind.i64.wrap (((mB L ++ [0]).length : Int) - 1)).toNat (addB 0 z) = mB (L ++ [⟨z / 64, orB b z⟩]) := fun hb => by
    rw [last_set _ _ _ (by rw [mB_len]; omega), mB_app, ← e4, hb]
    rfl
  rcases e1 with e1 | ⟨e1, hb⟩
  · -- the last part has more
    have hA : mA P = mA L ++ [z / 64] := by rw [e1, mA_app]; rfl
    have hB : mB P = mB L ++ [b] := by rw [e1, mB_app]; rfl
    have hn : ¬ (((mA P).length : Int) = 0) := by rw [hA, List.length_append, List.length_singleton]; omega
    rw [decide_eq_false hn, cond_false, hA, hB, if_pos (last_in _ _ (by rw [mA_len]; omega)), last_get' _ _ (by rw [mA_len]; omega), Option.bind_some, decide_eq_true rfl, Bool.not_true, cond_false, if_pos (last_in _ _ (by rw [mB_len]; omega)), last_get' _ _ (by rw [mB_len]; omega), Option.bind_some, if_neg ht, if_pos (last_in _ _ (by rw [mB_len]; omega)), Option.bind_some]
    show fnLoop X E30 an30 lp Try.f30 0 N (g30_S0 l _ _ ((mB L ++ [b]).set _ (addB b z))) = _
    rw [last_set _ _ _ (by rw [mB_len]; omega), e4, mA_app, mB_app]
    rfl
  · subst e1
    have hA2 : mA P ++ [z / 64] = mA (P ++ [⟨z / 64, orB b z⟩]) := by rw [mA_app]; rfl
    by_cases hn : ((mA P).length : Int) = 0
    · rw [decide_eq_true hn, cond_true, if_pos (by rw [mA_len]; omega), if_pos (by rw [mB_len]; omega), if_pos (last_in _ _ (by rw [mB_len]; omega)), last_get' _ _ (by rw [mB_len]; omega), Option.bind_some, if_neg ht, if_pos (last_in _ _ (by rw [mB_len]; omega)), Option.bind_some, hA2]
      show fnLoop X E30 an30 lp Try.f30 0 N (g30_S0 l _ _ ((mB P ++ [0]).set _ (addB 0 z))) = _
      rw [new hb]
    · have hne : P ≠ [] := fun e => hn (by rw [e]; rfl)
      obtain ⟨L', q, rfl⟩ : ∃ (L' : List R100) (q : R100), P = L' ++ [q] := ⟨P.dropLast, P.getLast hne, (List.dropLast_concat_getLast hne).symm⟩
      have hA : mA (L' ++ [q]) = mA L' ++ [q.At] := by rw [mA_app]; rfl
      have hqlt := e2 q (by simp)
      have hl' : L'.length ≤ 16384 := by rw [List.length_append] at hlL; omega
      rw [decide_eq_false hn, cond_false, ← hA2, hA, if_pos (last_in _ _ (by rw [mA_len]; omega)), last_get' _ _ (by rw [mA_len]; omega), Option.bind_some, decide_eq_false (show ¬ q.At = z / 64 by omega), Bool.not_false, cond_true, if_pos (by rw [List.length_append, mA_len, List.length_singleton]; omega), if_pos (by rw [mB_len]; omega), if_pos (last_in _ _ (by rw [mB_len]; omega)), last_get' _ _ (by rw [mB_len]; omega), Option.bind_some, if_neg ht, if_pos (last_in _ _ (by rw [mB_len]; omega)), Option.bind_some]
      show fnLoop X E30 an30 lp Try.f30 0 N (g30_S0 l _ _ ((mB (L' ++ [q]) ++ [0]).set _ (addB 0 z))) = _
      rw [new hb]
def Z30a (ps : List R100) : TS U := mkS 92 [(3, .full 0), (4, .full 1)] [.row .i64 (mA ps) false, .row .u64 (mB ps) false] 0
theorem rounds30a (lp : Lp U) (l : List Int) (hl : l.length ≤ 1000000) (hs : l.Pairwise (· < ·)) (hb : ∀ n ∈ l, 0 ≤ n ∧ n < 1048576) : ∀ (m i : Nat) (P : List R100), i + m = l.length → RelP P (l.take i) → ∃ Q, RelP Q l ∧ fnLoop X E30 an30 lp Try.f30 0 (m + 1) (g30_S0 l i (mA P) (mB P)) = some (.exit 0, Z30a Q) := by
  intro m
  induction m with
  | zero =>
    intro i P hi h
    rw [List.take_of_length_le (by omega)] at h
    refine ⟨P, h, ?_⟩
    refine (g30_e0 lp l 0 i (mA P) (mB P)).trans ?_
    rw [decide_eq_false (by omega)]
    rfl
  | succ m ih =>
    intro i P hi h
    obtain ⟨z, hz, hz2⟩ := getE (l := l) (v := (i : Int)) (by omega) (by omega)
    have hz3 : l[i]? = some z := hz2
    have hzb := hb z (List.mem_of_getElem? hz3)
    have hlt : ∀ x ∈ l.take i, x < z := fun x hx => by
      obtain ⟨j, hj, rfl⟩ := List.mem_iff_getElem.1 hx
      rw [List.length_take] at hj
      rw [List.getElem_take]
      have := List.pairwise_iff_getElem.1 hs j i (by omega) (by omega) (by omega)
      rw [(List.getElem?_eq_some_iff.1 hz3).2] at this
      exact this
    have e : l.take (i + 1) = l.take i ++ [z] := by rw [List.take_add_one, hz3]; rfl
    obtain ⟨_, _, _, _, _, _, hr⟩ := step_last h hzb.1 hzb.2 hlt
    rw [← e] at hr
    obtain ⟨Q, hQ, hQ2⟩ := ih (i + 1) (putP P z) (by omega) hr
    exact ⟨Q, hQ, (round30 lp (m + 1) l i h hzb.1 hzb.2 hlt (by omega) hl hz).trans hQ2⟩
theorem loop30a (lp : Lp U) {ps : List R100} {l : List Int} (h : RelP ps l) (hl : l.length ≤ 1000000) : fnLoop X E30 an30 lp Try.f30 0 (l.length + 1) (g30_S0 l 0 [] []) = some (.exit 0, Z30a ps) := by
  obtain ⟨Q, h1, h2⟩ := rounds30a lp l hl h.2.1 h.2.2.1 l.length 0 [] (Nat.zero_add _) (by rw [List.take_zero]; exact relP_nil)
  rw [rel_uniq h h1]
  exact h2
/-! ### The second loop -/
def S30 (ps : List R100) (s : ByteArray) (nx i : Int) : TS U := mkS 92 [(3, .full 0), (4, .full 1), (6, .v (.string s)), (7, .v (.int .i64 nx)), (8, .v (.int .i64 i))] [.row .i64 (mA ps) false, .row .u64 (mB ps) false] 0
def Z30 (s : ByteArray) : TS U := mkS 92 [(6, .v (.string s))] [] 0
theorem r30 (lp : Lp
  U) (N : Nat) (ps : List
  R100) (s : ByteArray) (nx : Int) (i : Int) : (fnLoop X E30 an30 lp Try.f30 2 N.succ (S30 ps s nx i)) =
  bif decide (i < (↑(mA ps).length : Int)) then
  if 0 ≤ i ∧ i < (↑(mA ps).length : Int) then
    (mA ps)[i.toNat]?.bind fun (y : X.U.T C.i64) =>
      if PU (IntKind.u64.wrap (IntKind.i64.wrap (y - nx))) then
        if 0 ≤ i ∧ i < (↑(mB ps).length : Int) then
          (mB ps)[i.toNat]?.bind fun (y_1 : X.U.T C.u64) =>
            if P62 y_1 8 then
              if (numB (IntKind.u64.wrap (IntKind.i64.wrap (y - nx)))).size + (fixB y_1).size ≤ 9223372036854775807 then
                if
                    s.size + (numB (IntKind.u64.wrap (IntKind.i64.wrap (y - nx))) ++ fixB y_1).size ≤
                      9223372036854775807 then
                  if 0 ≤ i ∧ i < (↑(mA ps).length : Int) then
                    (mA ps)[i.toNat]?.bind fun (y_2 : X.U.T C.i64) =>
                      fnLoop X E30 an30 lp Try.f30 2 N
                        (mkS 92
                          [(3, TV.full 0), (4, TV.full 1),
                            (6,
                              TV.v
                                (Value.string
                                  (s ++ (numB (IntKind.u64.wrap (IntKind.i64.wrap (y - nx))) ++ fixB y_1)))),
                            (7, TV.v (Value.int IntKind.i64 (IntKind.i64.wrap (y_2 + 1)))),
                            (8, TV.v (Value.int IntKind.i64 (IntKind.i64.wrap (i + 1))))]
                          [TO.row C.i64 (mA ps) false, TO.row C.u64 (mB ps) false] 0)
                  else none
                else none
              else none
            else none
        else none
      else none
  else none
else some (Exit.exit 2, mkS 92 [(6, TV.v (Value.string s))] [] 0) := by kernel_rfl
theorem getI_nat {α : Type} {l : List α} {v : Int} {z : α} (h0 : 0 ≤ v) (h : getI l v = some z) : l[v.toNat]? = some z := by
  unfold getI at h
  rw [if_pos h0] at h
  exact h
theorem rounds30b (lp : Lp U) (ps : List R100) (h : OkP ps) : fnLoop X E30 an30 lp Try.f30 2 (ps.length + 1) (S30 ps (numB (IntKind.u64.wrap (ps.length : Int))) 0 0) = some (.exit 2, Z30 (putS ps)) := by
  have hlen := h.len
  refine fold_rounds (fnl := fnLoop X E30 an30 lp Try.f30 2) (fun (g : ByteArray × Int) v => S30 ps g.1 g.2 v) (fun g => ((.exit 2, Z30 g.1) : Exit × TS U)) ps (fun g v => (g.1.size : Int) ≤ 10 + 18 * v ∧ 0 ≤ g.2 ∧ g.2 ≤ 16384) stB (fun N g v z hI h0 h1 hz => ?_) (fun N g v hI h1 => ?_) _ (_, 0) 0 ⟨by have := numB_size (u64_wrap (ps.length : Int)); show ((numB _).size : Int) ≤ _; omega, Int.le_refl 0, by show (0 : Int) ≤ 16384; omega⟩ (Int.le_refl _) (by omega)
  · obtain ⟨b, nx⟩ := g
    obtain ⟨i1, i2, i3⟩ := hI
    dsimp only at i1 i2 i3
    have hz' := getI_nat h0 hz
    have hb := h.2 z (List.mem_of_getElem? hz')
    have hn := numB_size (u64_wrap (z.At - nx))
    have hf := fixB_size z.Bits
    have hU : U64 z.Bits := ⟨by omega, hb.2.2⟩
    have gA : (mA ps)[v.toNat]? = some z.At := by unfold mA; rw [List.getElem?_map, hz']; rfl
    have gB : (mB ps)[v.toNat]? = some z.Bits := by unfold mB; rw [List.getElem?_map, hz']; rfl
    have cA : 0 ≤ v ∧ v < ((mA ps).length : Int) := ⟨h0, by rw [mA_len]; exact h1⟩
    have cB : 0 ≤ v ∧ v < ((mB ps).length : Int) := ⟨h0, by rw [mB_len]; exact h1⟩
    unfold stB
    dsimp only
    refine ⟨?_, by rw [app_size, app_size]; omega, by omega, by omega⟩
    rw [r30, decide_eq_true cA.2, cond_true, if_pos cA, gA, Option.bind_some, wr (a := z.At - nx) (by omega) (by omega), if_pos (show PU _ from u64_wrap _), if_pos cB, gB, Option.bind_some, if_pos (show P62 z.Bits 8 from ⟨hU, rfl⟩), if_pos (by omega), if_pos (by rw [app_size]; omega), if_pos cA, Option.bind_some, wr (a := z.At + 1) (by omega) (by omega), wr (a := v + 1) (by omega) (by omega)]
    rfl
  · rw [r30, decide_eq_false (by rw [mA_len]; exact h1)]
    rfl
def dl30a (s : TS U) : Option (List Int × List Int × List Int × Int) := match told s 92 [0, 3, 4, 5] 0, s.objs with
  | some [a0, a1, a2, a3], [o0, o1] =>
    match o0 with
    | .row .i64 a false =>
      match o1 with
      | .row .u64 b false =>
        match a0 with
        | .lst .i64 l =>
          match a1 with
          | .full 0 =>
            match a2 with
            | .full 1 =>
              match a3 with
              | .v (.int .i64 i) =>
                some (a, b, l, i)
              | _ => none
            | _ => none
          | _ => none
        | _ => none
      | _ => none
    | _ => none
  | _, _ => none
theorem dl30a_ok {s : TS U} {a : List Int} {b : List Int} {l : List Int} {i : Int} (h : dl30a s = some (a, b, l, i)) : s = mkS (U := U) 92 ([0, 3, 4, 5].zip ([.lst .i64 l, .full 0, .full 1, .v (.int .i64 i)] : List (TV U))) ([.row .i64 a false, .row .u64 b false] : List (TO U)) 0 := by
  unfold dl30a at h
  split at h <;> try (cases h; done)
  rename_i ht ho
  have hs := told_ok ht
  rw [ho] at hs
  repeat' split at h
  all_goals first | (cases h; done) | (cases h; exact hs)
def dl30b (s : TS U) : Option (List Int × List Int × ByteArray × Int × Int) := match told s 92 [3, 4, 6, 7, 8] 0, s.objs with
  | some [a0, a1, a2, a3, a4], [o0, o1] =>
    match o0 with
    | .row .i64 a false =>
      match o1 with
      | .row .u64 b false =>
        match a0 with
        | .full 0 =>
          match a1 with
          | .full 1 =>
            match a2 with
            | .v (.string t) =>
              match a3 with
              | .v (.int .i64 nx) =>
                match a4 with
                | .v (.int .i64 i) =>
                  some (a, b, t, nx, i)
                | _ => none
              | _ => none
            | _ => none
          | _ => none
        | _ => none
      | _ => none
    | _ => none
  | _, _ => none
theorem dl30b_ok {s : TS U} {a : List Int} {b : List Int} {t : ByteArray} {nx : Int} {i : Int} (h : dl30b s = some (a, b, t, nx, i)) : s = mkS (U := U) 92 ([3, 4, 6, 7, 8].zip ([.full 0, .full 1, .v (.string t), .v (.int .i64 nx), .v (.int .i64 i)] : List (TV U))) ([.row .i64 a false, .row .u64 b false] : List (TO U)) 0 := by
  unfold dl30b at h
  split at h <;> try (cases h; done)
  rename_i ht ho
  have hs := told_ok ht
  rw [ho] at hs
  repeat' split at h
  all_goals first | (cases h; done) | (cases h; exact hs)
def Zab (a b : List Int) : TS U := mkS 92 [(3, .full 0), (4, .full 1)] [.row .i64 a false, .row .u64 b false] 0
def P30a (ps : List R100) (A B a b l : List Int) (i : Int) : Prop := RelP ps l ∧ l.length ≤ 1000000 ∧ A = mA ps ∧ B = mB ps ∧ a = [] ∧ b = [] ∧ i = 0
noncomputable instance (ps : List R100) (A B a b l : List Int) (i : Int) : Decidable (P30a ps A B a b l i) := Classical.propDecidable _
def P30b (ps : List R100) (a b : List Int) (t : ByteArray) (nx i : Int) : Prop := OkP ps ∧ a = mA ps ∧ b = mB ps ∧ t = numB (IntKind.u64.wrap (ps.length : Int)) ∧ nx = 0 ∧ i = 0
noncomputable instance (ps : List R100) (a b : List Int) (t : ByteArray) (nx i : Int) : Decidable (P30b ps a b t nx i) := Classical.propDecidable _
noncomputable def lc30a (ps : List R100) (A B : List Int) : LC U := .of dl30a (fun (a, b, l, i) => P30a ps A B a b l i) (.exit 0) fun _ => Zab A B
noncomputable def lc30b (ps : List R100) : LC U := .of dl30b (fun (a, b, t, nx, i) => P30b ps a b t nx i) (.exit 2) fun _ => Z30 (putS ps)
noncomputable def lp30 (ps : List R100) (A B : List Int) : Lp U := lpL [(0, lc30a ps A B), (2, lc30b ps)]
theorem lp30_ok (ps : List R100) (A B : List Int) : ∀ c, Try.f30.body = some c → LpOk X E30 an30 (lp30 ps A B) (loops c 0) := lpL_ok (by kernel_rfl) fun b L hm st p hs => by
  cases hm with
  | head =>
    obtain ⟨⟨a, b, l, i⟩, hx, ⟨h1, h2, rfl, rfl, rfl, rfl, rfl⟩, rfl⟩ := LC.of_some hs
    obtain rfl := dl30a_ok hx
    exact ⟨_, loop30a _ h1 h2⟩
  | tail _ hm => cases hm with
    | head =>
      obtain ⟨⟨a, b, t, nx, i⟩, hx, ⟨h1, rfl, rfl, rfl, rfl, rfl⟩, rfl⟩ := LC.of_some hs
      obtain rfl := dl30b_ok hx
      exact ⟨_, rounds30b _ ps h1⟩
    | tail _ hm => cases hm
theorem e30 (ps : List
  R100) (A : List
  Int) (B : List
  Int) (l : List
  Int) : (evFn X E30 an30 (lp30 ps A B) Try.f30 [] [TV.lst C.i64 l] fun (o : List (TO X.U)) (v : TV X.U) =>
  some (o, v)) =
  if P30a ps A B [] [] l 0 then
  if PU (IntKind.u64.wrap (↑A.length : Int)) then
    if P30b ps A B (numB (IntKind.u64.wrap (↑A.length : Int))) 0 0 then some ([], TV.v (Value.string (putS ps)))
    else none
  else none
else none := by kernel_rfl
def PPut (ps : List R100) (l : List Int) : Prop := RelP ps l ∧ l.length ≤ 1000000
noncomputable instance (ps : List R100) (l : List Int) : Decidable (PPut ps l) := Classical.propDecidable _
noncomputable def sPutZ0 (ps : List R100) : Spc U := .of dLi (fun l => PPut ps l) (fun _ => []) fun _ => .v (.string (putS ps))
theorem sPutZ0_ok (ps : List R100) : SpecOk Try.prog 30 (sPutZ0 ps) := by
  refine fn_ok X_ok mixed E30_ok an30 (lp30 ps (mA ps) (mB ps)) Try.func30 (by kernel_rfl) (by kernel_rfl) (lp30_ok ps _ _) fun objs args l hx hp => ?_
  obtain ⟨rfl, rfl⟩ := dLi_ok hx
  obtain ⟨h1, h2⟩ := hp
  refine (e30 ps (mA ps) (mB ps) l).trans ?_
  have hl := mA_len ps
  rw [if_pos (show P30a ps (mA ps) (mB ps) [] [] l 0 from ⟨h1, h2, rfl, rfl, rfl, rfl, rfl⟩), hl, if_pos (show PU _ from u64_wrap _), if_pos (show P30b ps (mA ps) (mB ps) (numB (IntKind.u64.wrap (ps.length : Int))) 0 0 from ⟨h1.1, rfl, rfl, rfl, rfl, rfl⟩)]
noncomputable def sPutZ (ps : List R100) : Spc U := (sPutZ0 ps).wkA [.l .i64]
theorem sPutZ_ok (ps : List R100) : SpecOk Try.prog 30 (sPutZ ps) := (sPutZ0_ok ps).wkA _
end Go.Proofs.Ytmcflglkfgnbbaa.Bt

/- Nodes as bytes: the reference's Put. -/
namespace Go.Proofs.Ytmcflglkfgnbbaa.Nd
open Go Go.RowKit Go.Proofs.Ytmcflglkfgnbbaa.Eng
set_option linter.unusedVariables false
set_option linter.unusedSimpArgs false
set_option maxRecDepth 20000
def N4.n3 (n : N4) : N3 := ⟨n.L, n.K, n.V.map cvB, n.I⟩
def P59 (n : N4) (i : Int) : Prop := n.n3.Ok ∧ 0 ≤ i ∧ i < n.K.length
noncomputable instance (n : N4) (i : Int) : Decidable (P59 n i) := Classical.propDecidable _
def pcB (n : N4) (i : Int) : ByteArray := (getI n.n3.pcs i).getD .empty
theorem getI_map {α β : Type} {f : α → β} {l : List α} {i : Int} {z : β} (h : getI (l.map f) i = some z) : ∃ x, getI l i = some x ∧ z = f x := by
  unfold getI at h ⊢
  split at h
  · rename_i h0
    rw [if_pos h0]
    rw [List.getElem?_map, Option.map_eq_some_iff] at h
    obtain ⟨x, h1, rfl⟩ := h
    exact ⟨x, h1, rfl⟩
  · cases h
theorem o59 {n : N4} {i : Int} (h : P59 n i) : evFn X Eu an0 lp0 Try.f59 [] [n.tv, .v (.int .i64 i)] (fun o v => some (o, v)) = some ([], .v (.string (pcB n i))) := by
  obtain ⟨h1, h2, h3⟩ := h
  have hl := h1.pcs
  have hk := h1.len
  obtain ⟨z, hz, _⟩ := getE (l := n.n3.pcs) h2 (by rw [hl]; exact h3)
  have hp : pcB n i = z := by unfold pcB; rw [hz]; rfl
  rw [hp]
  obtain ⟨L, K, V, I⟩ := n
  have hk : K.length ≤ 1000000 := hk
  have h3 : i < (K.length : Int) := h3
  rw [e59]
  dsimp only
  cases L with
  | false =>
    obtain ⟨k, w, e1, e2, rfl, e3, e4⟩ := pcs_inner h1 hz
    have e1 : getI K i = some k := e1
    have e2 : getI I (i + 1) = some w := e2
    have := textB_size e3
    have := numB_size (u64_wrap w)
    rw [e1, Option.bind_some, if_pos e3, Bool.not_false, cond_true, wr (a := i + 1) (by omega) (by omega), e2, Option.bind_some, if_pos (u64_wrap _), if_pos (by omega)]
    rfl
  | true =>
    obtain ⟨k, w, e1, e2, rfl, ⟨e3, e5⟩, e4⟩ := pcs_leaf h1 hz
    have e1 : getI K i = some k := e1
    obtain ⟨u, e6, rfl⟩ := getI_map (l := V) e2
    have e5 : Sz u.Data.size := e5
    have h6 := textB_size e3
    have h7 := textB_size e5
    have h8 := numB_size (u64_wrap u.Page)
    have h9 := numB_size (u64_wrap u.Len)
    rw [e1, Option.bind_some, if_pos e3, Bool.not_true, cond_false, e6]
    simp only [Option.bind_some]
    unfold entB cvB
    dsimp only
    cases decide (0 ≤ u.Page)
    · simp only [cond_false, app_size, sz1, Option.bind_some]
      rw [if_pos (show (textB k).size + 1 ≤ 9223372036854775807 by omega), if_pos e5, if_pos (show (textB k).size + 1 + (textB u.Data).size ≤ 9223372036854775807 by omega)]
    · simp only [cond_true, app_size, sz1, Option.bind_some]
      rw [if_pos (show (textB k).size + 1 ≤ 9223372036854775807 by omega), if_pos (u64_wrap _), if_pos (show (textB k).size + 1 + (numB (IntKind.u64.wrap u.Page)).size ≤ 9223372036854775807 by omega), if_pos (u64_wrap _), if_pos (by omega)]
def d59 (objs : List (TO U)) (args : List (TV U)) : Option (N4 × Int) := match objs, args with
  | [], [a0, a1] =>
    match a0 with
    | .agg [q0, q1, q2, q3] =>
      match q0 with
      | .v (.bool n_L) =>
        match q1 with
        | .lst .str n_K =>
          match q2 with
          | .lst .t83 n_V =>
            match q3 with
            | .lst .i64 n_I =>
              match a1 with
              | .v (.int .i64 i) =>
                some ((⟨n_L, n_K, n_V, n_I⟩ : N4), i)
              | _ => none
            | _ => none
          | _ => none
        | _ => none
      | _ => none
    | _ => none
  | _, _ => none
theorem d59_ok {objs : List (TO U)} {args : List (TV U)} {n : N4} {i : Int} (h : d59 objs args = some (n, i)) : objs = [] ∧ args = [n.tv, .v (.int .i64 i)] := by
  unfold d59 at h
  repeat' split at h
  all_goals first | (cases h; done) | (cases h; exact ⟨rfl, rfl⟩)
noncomputable def sPc : Spc U := .of d59 (fun (n, i) => P59 n i) (fun _ => []) fun (n, i) => .v (.string (pcB n i))
theorem sPc_ok : SpecOk Try.prog 59 sPc := by
  refine fn_ok X_ok mixed Eu_ok an0 lp0 Try.func59 (by kernel_rfl) (by kernel_rfl) (lp0_ok (by kernel_rfl)) fun objs args x hx hp => ?_
  obtain ⟨n, i⟩ := x
  obtain ⟨rfl, rfl⟩ := d59_ok hx
  exact o59 hp
noncomputable def Ex : FuncId → Option (Spc U)
  | 58 => some sNumR
  | 59 => some sPc
  | _ => none
theorem Ex_ok : ∀ f S, Ex f = some S → SpecOk Try.prog f S := fun f S h => by
  unfold Ex at h
  split at h
  · cases h; exact sNumR_ok
  · cases h; exact sPc_ok
  · cases h
def S25 (n : N4) (b : ByteArray) (v : Int) : TS U := mkS 34 [(1, .ref 0 0 0), (3, .v (.string b)), (4, .v (.int .i64 v))] [n.ob] 0
def Z25 (b : ByteArray) : TS U := mkS 34 [(3, .v (.string b))] [] 0
theorem r25 (lp : Lp
  U) (N : Nat) (n : N4) (b : ByteArray) (v : Int) : (fnLoop X Ex an25 lp Try.f25 0 N.succ (S25 n b v)) =
  bif decide (v < (↑n.K.length : Int)) then
  if P59 n v then
    if b.size + (pcB n v).size ≤ 9223372036854775807 then
      fnLoop X Ex an25 lp Try.f25 0 N
        (mkS 34
          [(1, TV.ref 0 0 0), (3, TV.v (Value.string (b ++ pcB n v))),
            (4, TV.v (Value.int IntKind.i64 (IntKind.i64.wrap (v + 1))))]
          [n.ob] 0)
    else none
  else none
else some (Exit.exit 0, mkS 34 [(3, TV.v (Value.string b))] [] 0) := by kernel_rfl
theorem rounds25 (lp : Lp U) (n : N4) (h : n.n3.Ok) : fnLoop X Ex an25 lp Try.f25 0 (n.n3.pcs.length + 1) (S25 n n.n3.hd 0) = some (.exit 0, Z25 n.n3.put) := by
  have hl : n.n3.pcs.length = n.K.length := h.pcs
  have hk : n.K.length ≤ 1000000 := h.len
  refine fold_rounds (fnl := fnLoop X Ex an25 lp Try.f25 0) (fun b v => S25 n b v) (fun b => ((.exit 0, Z25 b) : Exit × TS U)) n.n3.pcs (fun b v => (b.size : Int) ≤ 20 + 300000000 * v) (· ++ ·) (fun N b v z hI h0 h1 hz => ?_) (fun N b v hI h1 => ?_) _ _ 0 (by
      have : n.n3.hd.size ≤ 20 := hdB_size _ _ _
      omega) (Int.le_refl _) (by omega)
  · have hp : P59 n v := ⟨h, h0, by omega⟩
    have hb : pcB n v = z := by unfold pcB; rw [hz]; rfl
    have hs : z.size ≤ 300000000 := by
      cases hL : n.L with
      | true =>
        have h' : Pn true n.n3.K n.n3.V n.n3.I := by have := h; unfold N3.Ok at this; rw [show n.n3.L = true from hL] at this; exact this
        have hz' : getI (pcs true n.n3.K n.n3.V n.n3.I) v = some z := by have := hz; unfold N3.pcs at this; rw [show n.n3.L = true from hL] at this; exact this
        obtain ⟨_, _, _, _, _, _, e⟩ := pcs_leaf h' hz'
        exact e
      | false =>
        have h' : Pn false n.n3.K n.n3.V n.n3.I := by have := h; unfold N3.Ok at this; rw [show n.n3.L = false from hL] at this; exact this
        have hz' : getI (pcs false n.n3.K n.n3.V n.n3.I) v = some z := by have := hz; unfold N3.pcs at this; rw [show n.n3.L = false from hL] at this; exact this
        obtain ⟨_, _, _, _, _, _, e⟩ := pcs_inner h' hz'
        exact e
    refine ⟨?_, by rw [app_size]; omega⟩
    rw [r25, decide_eq_true (by omega), cond_true, if_pos hp, hb, if_pos (by omega), wr (a := v + 1) (by omega) (by omega)]
    rfl
  · rw [r25, decide_eq_false (by omega)]
    rfl
def P25 (n : N4) (b : ByteArray) (v : Int) : Prop := n.n3.Ok ∧ b = n.n3.hd ∧ v = 0
noncomputable instance (n : N4) (b : ByteArray) (v : Int) : Decidable (P25 n b v) := Classical.propDecidable _
def dl25 (s : TS U) : Option (N4 × ByteArray × Int) := match told s 34 [1, 3, 4] 0, s.objs with
  | some [a0, a1, a2], [o0] =>
    match o0 with
    | .cells [q0, q1, q2, q3] false =>
      match q0 with
      | .v (.bool n_L) =>
        match q1 with
        | .lst .str n_K =>
          match q2 with
          | .lst .t83 n_V =>
            match q3 with
            | .lst .i64 n_I =>
              match a0 with
              | .ref 0 0 0 =>
                match a1 with
                | .v (.string b) =>
                  match a2 with
                  | .v (.int .i64 v) =>
                    some ((⟨n_L, n_K, n_V, n_I⟩ : N4), b, v)
                  | _ => none
                | _ => none
              | _ => none
            | _ => none
          | _ => none
        | _ => none
      | _ => none
    | _ => none
  | _, _ => none
theorem dl25_ok {s : TS U} {n : N4} {b : ByteArray} {v : Int} (h : dl25 s = some (n, b, v)) : s = mkS (U := U) 34 ([1, 3, 4].zip ([.ref 0 0 0, .v (.string b), .v (.int .i64 v)] : List (TV U))) ([n.ob] : List (TO U)) 0 := by
  unfold dl25 at h
  split at h <;> try (cases h; done)
  rename_i ht ho
  have hs := told_ok ht
  rw [ho] at hs
  repeat' split at h
  all_goals first | (cases h; done) | (cases h; exact hs)
noncomputable def lc25 : LC U := .of dl25 (fun (n, b, v) => P25 n b v) (.exit 0) (fun (n, b, v) => Z25 n.n3.put)
noncomputable def lp25 : Lp U := lpL [(0, lc25)]
theorem lp25_ok : ∀ c, Try.f25.body = some c → LpOk X Ex an25 lp25 (loops c 0) := lpL_ok (by kernel_rfl) fun b L hm st p hs => by
  cases hm with
  | tail _ h => cases h
  | head =>
    obtain ⟨⟨n, b, v⟩, hx, ⟨h1, rfl, rfl⟩, rfl⟩ := LC.of_some hs
    obtain rfl := dl25_ok hx
    exact ⟨_, rounds25 _ n h1⟩
theorem e25 (n : N4) : (evFn X Ex an25 lp25 Try.f25 [] [n.tv] fun (o : List (TO X.U)) (v : TV X.U) => some (o, v)) =
  if U64 (IntKind.u64.wrap (↑n.K.length : Int)) then
  bif !n.L then
    (getI n.I 0).bind fun (z : X.U.T C.i64) =>
      if U64 (IntKind.u64.wrap z) then
        if
            (numB (IntKind.u64.wrap (↑n.K.length : Int))).size + (numB (IntKind.u64.wrap z)).size ≤
              9223372036854775807 then
          if P25 n (numB (IntKind.u64.wrap (↑n.K.length : Int)) ++ numB (IntKind.u64.wrap z)) 0 then
            some ([], TV.v (Value.string n.n3.put))
          else none
        else none
      else none
  else if P25 n (numB (IntKind.u64.wrap (↑n.K.length : Int))) 0 then some ([], TV.v (Value.string n.n3.put)) else none
else none := by kernel_rfl
theorem o25 {n : N4} (h : n.n3.Ok) : evFn X Ex an25 lp25 Try.f25 [] [n.tv] (fun o v => some (o, v)) = some ([], .v (.string n.n3.put)) := by
  rw [e25, if_pos (u64_wrap _)]
  have h' := h
  obtain ⟨_, _, _, h1, h2⟩ := h'
  cases hL : n.L with
  | true =>
    have e : n.n3.hd = numB (IntKind.u64.wrap (n.K.length : Int)) := by unfold N3.hd hdB N4.n3; rw [hL]; rfl
    rw [Bool.not_true, cond_false, if_pos ⟨h, e.symm, rfl⟩]
  | false =>
    have h2 : n.I.length = n.K.length + 1 := h2 hL
    have h3 := numB_size (u64_wrap (n.K.length : Int))
    obtain ⟨z, hz, hz2⟩ := getE (l := n.I) (v := 0) (Int.le_refl _) (by omega)
    have h4 := numB_size (u64_wrap z)
    have e : n.n3.hd = numB (IntKind.u64.wrap (n.K.length : Int)) ++ numB (IntKind.u64.wrap z) := by
      unfold N3.hd hdB N4.n3
      rw [hL, cond_false]
      dsimp only
      cases hI : n.I with
      | nil => rw [hI] at hz; cases hz
      | cons x l => rw [hI] at hz; cases hz; rfl
    rw [Bool.not_false, cond_true, hz, Option.bind_some, if_pos (u64_wrap _), if_pos (by omega), if_pos ⟨h, e.symm, rfl⟩]
def dNa (objs : List (TO U)) (args : List (TV U)) : Option (N4) := match objs, args with
  | [], [a0] =>
    match a0 with
    | .agg [q0, q1, q2, q3] =>
      match q0 with
      | .v (.bool n_L) =>
        match q1 with
        | .lst .str n_K =>
          match q2 with
          | .lst .t83 n_V =>
            match q3 with
            | .lst .i64 n_I =>
              some (⟨n_L, n_K, n_V, n_I⟩ : N4)
            | _ => none
          | _ => none
        | _ => none
      | _ => none
    | _ => none
  | _, _ => none
theorem dNa_ok {objs : List (TO U)} {args : List (TV U)} {n : N4} (h : dNa objs args = some n) : objs = [] ∧ args = [n.tv] := by
  unfold dNa at h
  repeat' split at h
  all_goals first | (cases h; done) | (cases h; exact ⟨rfl, rfl⟩)
noncomputable def sPutR : Spc U := .of dNa (fun n => n.n3.Ok) (fun _ => []) fun n => .v (.string n.n3.put)
theorem sPutR_ok : SpecOk Try.prog 25 sPutR := by
  refine fn_ok X_ok mixed Ex_ok an25 lp25 Try.func25 (by kernel_rfl) (by kernel_rfl) lp25_ok fun objs args n hx hp => ?_
  obtain ⟨rfl, rfl⟩ := dNa_ok hx
  exact o25 hp
/-- The document's node says what the node says. -/
theorem refP_n3 (b : Bool) (ks : List ByteArray) (vs : List R33) (ki : List Int) : (refP b ks vs ki).n3 = ⟨b, ks, vs, ki⟩ := by
  unfold refP N4.n3
  dsimp only
  rw [List.map_map, show cvB ∘ cvR = id from rfl, List.map_id]
end Go.Proofs.Ytmcflglkfgnbbaa.Nd

/- Inner nodes. -/
namespace Go.Proofs.Ytmcflglkfgnbbaa.Nd
open Go Go.RowKit Go.Proofs.Ytmcflglkfgnbbaa.Eng
set_option linter.unusedVariables false
set_option linter.unusedSimpArgs false
set_option maxRecDepth 20000
def Ei : FuncId → Option (Spc U)
  | 9 => some sLeaf
  | _ => none
theorem Ei_ok : ∀ f S, Ei f = some S → SpecOk Try.prog f S := fun f S h => by
  unfold Ei at h
  split at h
  · cases h; exact sLeaf_ok
  · cases h
def an45 : Ann := ⟨fun | 0 => 61 | _ => 0, fun | 0 => 20 | _ => 0, fun _ => [], false⟩
def pgI (z : R24) : Int := IntKind.i64.wrap (↑(BitVec.ofInt IntKind.i64.bits z.Page &&& BitVec.ofInt IntKind.i64.bits 16383).toNat : Int)
/-- The pages of an inner node of so many keys. -/
def inI (l : List R24) (k : Nat) : List Int := 5 :: (l.take k).map pgI
def kT (e : Bool) (ks : List ByteArray) : TV U := cond e nlv (.lst .str ks)
def vT (e : Bool) (vs : List R33) : TV U := cond e nlv (.lst .t33 vs)
def S45 (l : List R24) (a : TV U) (b : TV U) (i : Int) (xs : List Int) : TS U := mkS 31 [(0, .lst .t24 l), (2, .ref 0 0 0), (3, .ref 1 0 0), (4, .ref 2 0 0), (5, .v (.int .i64 i))]
  [.cells [.v (.bool false), nlv, nlv, nlv] false, .cells [.v (.bool true), a, b, nlv] false, .cells [.v (.bool false), a, nlv, .full 3] false, .row .i64 xs false] 0
def Z45 (a : TV U) (xs : List Int) : TS U := mkS 31 [(2, .ref 0 0 0), (4, .ref 1 0 0)] [.cells [.v (.bool false), nlv, nlv, nlv] false, .cells [.v (.bool false), a, nlv, .full 2] false, .row .i64 xs false] 0
theorem r45n (lp : Lp U) (N : Nat) (l : List R24) (i : Int) (xs : List Int) : fnLoop X Ei an45 lp Try.f45 0 N.succ (S45 l nlv nlv 0 xs) = some (.exit 0, Z45 nlv xs) := by kernel_rfl
theorem r45 (lp : Lp
  U) (N : Nat) (l : List
  R24) (ks : List
  ByteArray) (vs : List
  R33) (i : Int) (xs : List
  Int) : (fnLoop X Ei an45 lp Try.f45 0 N.succ (S45 l (TV.lst C.str ks) (TV.lst C.t33 vs) i xs)) =
  bif decide (i < (↑ks.length : Int)) then
  (getI l i).bind fun (z : X.U.T C.t24) =>
    if (xs.length + 1) * 8 ≤ 140737488355328 then
      fnLoop X Ei an45 lp Try.f45 0 N
        (mkS 31
          [(0, TV.lst C.t24 l), (2, TV.ref 0 0 0), (3, TV.ref 1 0 0), (4, TV.ref 2 0 0),
            (5, TV.v (Value.int IntKind.i64 (IntKind.i64.wrap (i + 1))))]
          [TO.cells
              [TV.v (Value.bool false), TV.v (Value.slice none 0 0), TV.v (Value.slice none 0 0),
                TV.v (Value.slice none 0 0)]
              false,
            TO.cells [TV.v (Value.bool true), TV.lst C.str ks, TV.lst C.t33 vs, TV.v (Value.slice none 0 0)] false,
            TO.cells [TV.v (Value.bool false), TV.lst C.str ks, TV.v (Value.slice none 0 0), TV.full 3] false,
            TO.row C.i64
              (xs ++
                [IntKind.i64.wrap
                    (↑(BitVec.ofInt IntKind.i64.bits z.Page &&& BitVec.ofInt IntKind.i64.bits 16383).toNat : Int)])
              false]
          0)
    else none
else
  some
    (Exit.exit 0,
      mkS 31 [(2, TV.ref 0 0 0), (4, TV.ref 1 0 0)]
        [TO.cells
            [TV.v (Value.bool false), TV.v (Value.slice none 0 0), TV.v (Value.slice none 0 0),
              TV.v (Value.slice none 0 0)]
            false,
          TO.cells [TV.v (Value.bool false), TV.lst C.str ks, TV.v (Value.slice none 0 0), TV.full 2] false,
          TO.row C.i64 xs false]
        0) := by kernel_rfl
theorem rounds45 (lp : Lp U) (l : List R24) (ks : List ByteArray) (vs : List R33) (h1 : ks.length ≤ l.length) (h2 : ks.length ≤ 40) : ∀ (m k : Nat), k + m = ks.length → fnLoop X Ei an45 lp Try.f45 0 (m + 1) (S45 l (.lst .str ks) (.lst .t33 vs) k (inI l k)) = some (.exit 0, Z45 (.lst .str ks) (inI l ks.length)) := by
  intro m
  induction m with
  | zero =>
    intro k hk
    obtain rfl : k = ks.length := hk
    rw [r45, decide_eq_false (by omega)]
    rfl
  | succ m ih =>
    intro k hk
    obtain ⟨z, hz, hz2⟩ := getE (l := l) (v := (k : Int)) (by omega) (by omega)
    have hz3 : l[k]? = some z := hz2
    have hlen : (inI l k).length ≤ 41 := by unfold inI; rw [List.length_cons, List.length_map, List.length_take]; omega
    have hs : inI l k ++ [pgI z] = inI l (k + 1) := by
      unfold inI
      rw [List.take_add_one, hz3, List.map_append]
      rfl
    rw [r45, decide_eq_true (by omega), hz]
    simp only [cond_true, Option.bind_some]
    rw [if_pos (by omega), wr (a := (k : Int) + 1) (by omega) (by omega)]
    have := ih (k + 1) (by omega)
    rw [← hs] at this
    exact this
def dl45n (s : TS U) : Option (Bool × Bool × Bool × List Int × List R24 × Int) := match told s 31 [0, 2, 3, 4, 5] 0, s.objs with
  | some [a0, a1, a2, a3, a4], [o0, o1, o2, o3] =>
    match o0 with
    | .cells [q0, q1, q2, q3] false =>
      match q0 with
      | .v (.bool b0) =>
        match q1 with
        | .v (.slice none 0 0) =>
          match q2 with
          | .v (.slice none 0 0) =>
            match q3 with
            | .v (.slice none 0 0) =>
              match o1 with
              | .cells [q4, q5, q6, q7] false =>
                match q4 with
                | .v (.bool b1) =>
                  match q5 with
                  | .v (.slice none 0 0) =>
                    match q6 with
                    | .v (.slice none 0 0) =>
                      match q7 with
                      | .v (.slice none 0 0) =>
                        match o2 with
                        | .cells [q8, q9, q10, q11] false =>
                          match q8 with
                          | .v (.bool b2) =>
                            match q9 with
                            | .v (.slice none 0 0) =>
                              match q10 with
                              | .v (.slice none 0 0) =>
                                match q11 with
                                | .full 3 =>
                                  match o3 with
                                  | .row .i64 xs false =>
                                    match a0 with
                                    | .lst .t24 l =>
                                      match a1 with
                                      | .ref 0 0 0 =>
                                        match a2 with
                                        | .ref 1 0 0 =>
                                          match a3 with
                                          | .ref 2 0 0 =>
                                            match a4 with
                                            | .v (.int .i64 i) =>
                                              some (b0, b1, b2, xs, l, i)
                                            | _ => none
                                          | _ => none
                                        | _ => none
                                      | _ => none
                                    | _ => none
                                  | _ => none
                                | _ => none
                              | _ => none
                            | _ => none
                          | _ => none
                        | _ => none
                      | _ => none
                    | _ => none
                  | _ => none
                | _ => none
              | _ => none
            | _ => none
          | _ => none
        | _ => none
      | _ => none
    | _ => none
  | _, _ => none
theorem dl45n_ok {s : TS U} {b0 : Bool} {b1 : Bool} {b2 : Bool} {xs : List Int} {l : List R24} {i : Int} (h : dl45n s = some (b0, b1, b2, xs, l, i)) : s = mkS (U := U) 31 ([0, 2, 3, 4, 5].zip ([.lst .t24 l, .ref 0 0 0, .ref 1 0 0, .ref 2 0 0, .v (.int .i64 i)] : List (TV U))) ([.cells [.v (.bool b0), .v (.slice none 0 0), .v (.slice none 0 0), .v (.slice none 0 0)] false, .cells [.v (.bool b1), .v (.slice none 0 0), .v (.slice none 0 0), .v (.slice none 0 0)] false, .cells [.v (.bool b2), .v (.slice none 0 0), .v (.slice none 0 0), .full 3] false, .row .i64 xs false] : List (TO U)) 0 := by
  unfold dl45n at h
  split at h <;> try (cases h; done)
  rename_i ht ho
  have hs := told_ok ht
  rw [ho] at hs
  repeat' split at h
  all_goals first | (cases h; done) | (cases h; exact hs)
def dl45c (s : TS U) : Option (Bool × Bool × List ByteArray × List R33 × Bool × List ByteArray × List Int × List R24 × Int) := match told s 31 [0, 2, 3, 4, 5] 0, s.objs with
  | some [a0, a1, a2, a3, a4], [o0, o1, o2, o3] =>
    match o0 with
    | .cells [q0, q1, q2, q3] false =>
      match q0 with
      | .v (.bool b0) =>
        match q1 with
        | .v (.slice none 0 0) =>
          match q2 with
          | .v (.slice none 0 0) =>
            match q3 with
            | .v (.slice none 0 0) =>
              match o1 with
              | .cells [q4, q5, q6, q7] false =>
                match q4 with
                | .v (.bool b1) =>
                  match q5 with
                  | .lst .str ks =>
                    match q6 with
                    | .lst .t33 vs =>
                      match q7 with
                      | .v (.slice none 0 0) =>
                        match o2 with
                        | .cells [q8, q9, q10, q11] false =>
                          match q8 with
                          | .v (.bool b2) =>
                            match q9 with
                            | .lst .str kt =>
                              match q10 with
                              | .v (.slice none 0 0) =>
                                match q11 with
                                | .full 3 =>
                                  match o3 with
                                  | .row .i64 xs false =>
                                    match a0 with
                                    | .lst .t24 l =>
                                      match a1 with
                                      | .ref 0 0 0 =>
                                        match a2 with
                                        | .ref 1 0 0 =>
                                          match a3 with
                                          | .ref 2 0 0 =>
                                            match a4 with
                                            | .v (.int .i64 i) =>
                                              some (b0, b1, ks, vs, b2, kt, xs, l, i)
                                            | _ => none
                                          | _ => none
                                        | _ => none
                                      | _ => none
                                    | _ => none
                                  | _ => none
                                | _ => none
                              | _ => none
                            | _ => none
                          | _ => none
                        | _ => none
                      | _ => none
                    | _ => none
                  | _ => none
                | _ => none
              | _ => none
            | _ => none
          | _ => none
        | _ => none
      | _ => none
    | _ => none
  | _, _ => none
theorem dl45c_ok {s : TS U} {b0 : Bool} {b1 : Bool} {ks : List ByteArray} {vs : List R33} {b2 : Bool} {kt : List ByteArray} {xs : List Int} {l : List R24} {i : Int} (h : dl45c s = some (b0, b1, ks, vs, b2, kt, xs, l, i)) : s = mkS (U := U) 31 ([0, 2, 3, 4, 5].zip ([.lst .t24 l, .ref 0 0 0, .ref 1 0 0, .ref 2 0 0, .v (.int .i64 i)] : List (TV U))) ([.cells [.v (.bool b0), .v (.slice none 0 0), .v (.slice none 0 0), .v (.slice none 0 0)] false, .cells [.v (.bool b1), .lst .str ks, .lst .t33 vs, .v (.slice none 0 0)] false, .cells [.v (.bool b2), .lst .str kt, .v (.slice none 0 0), .full 3] false, .row .i64 xs false] : List (TO U)) 0 := by
  unfold dl45c at h
  split at h <;> try (cases h; done)
  rename_i ht ho
  have hs := told_ok ht
  rw [ho] at hs
  repeat' split at h
  all_goals first | (cases h; done) | (cases h; exact hs)
structure A45 where
  e : Bool
  b0 : Bool
  b1 : Bool
  b2 : Bool
  ks : List ByteArray
  vs : List R33
  kt : List ByteArray
  xs : List Int
  l : List R24
  i : Int
def P45 (a : A45) : Prop := a.b0 = false ∧ a.b1 = true ∧ a.b2 = false ∧ a.kt = a.ks ∧ a.i = 0 ∧ a.xs = [5] ∧ a.ks.length ≤ a.l.length ∧ a.ks.length ≤ 40
instance (a : A45) : Decidable (P45 a) := by unfold P45; infer_instance
def dl45 : TS U → Option A45 := orD (fun s => (dl45n s).map fun (b0, b1, b2, xs, l, i) => ⟨true, b0, b1, b2, [], [], [], xs, l, i⟩) (fun s => (dl45c s).map fun (b0, b1, ks, vs, b2, kt, xs, l, i) => ⟨false, b0, b1, b2, ks, vs, kt, xs, l, i⟩)
def lc45 : LC U := .of2 dl45 P45 (fun a => a.e) (.exit 0) (fun a => Z45 nlv (inI a.l 0)) (.exit 0) fun a => Z45 (.lst .str a.ks) (inI a.l a.ks.length)
def lp45 : Lp U := lpL [(0, lc45)]
theorem lp45_ok : ∀ c, Try.f45.body = some c → LpOk X Ei an45 lp45 (loops c 0) := lpL_ok (by kernel_rfl) fun b L hm st p hs => by
  cases hm with
  | tail _ h => cases h
  | head =>
    obtain ⟨a, hx, ⟨h1, h2, h3, h4, h5, h6, h7, h8⟩, rfl⟩ := LC.of2_some hs
    rcases orD_some hx with hy | hy
    · rw [Option.map_eq_some_iff] at hy
      obtain ⟨⟨b0, b1, b2, xs, l, i⟩, hd, rfl⟩ := hy
      obtain rfl := dl45n_ok hd
      dsimp only at h1 h2 h3 h5 h6
      subst h1 h2 h3 h5 h6
      exact ⟨1, r45n _ 0 l 0 [5]⟩
    · rw [Option.map_eq_some_iff] at hy
      obtain ⟨⟨b0, b1, ks, vs, b2, kt, xs, l, i⟩, hd, rfl⟩ := hy
      obtain rfl := dl45c_ok hd
      dsimp only at h1 h2 h3 h4 h5 h6 h7 h8
      subst h1 h2 h3 h4 h5 h6
      exact ⟨_, rounds45 _ l _ vs h7 h8 _ 0 (Nat.zero_add _)⟩
theorem e45 (l : List
  R24) : (evFn X Ei an45 lp45 Try.f45 [] [TV.lst C.t24 l] fun (o : List (TO X.U)) (v : TV X.U) => some (o, v)) =
  if True then
  bif (lfP l).fst.isEmpty then
    if
        P45
          { e := true, b0 := false, b1 := true, b2 := false, ks := [], vs := [], kt := [], xs := [5], l := l,
            i := 0 } then
      some
        ([],
          TV.agg
            [TV.v (Value.bool false), TV.v (Value.slice none 0 0), TV.v (Value.slice none 0 0), TV.lst C.i64 (inI l 0)])
    else none
  else
    if
        P45
          { e := false, b0 := false, b1 := true, b2 := false, ks := cS (lfP l).fst, vs := cV (lfP l).snd,
            kt := cS (lfP l).fst, xs := [5], l := l, i := 0 } then
      some
        ([],
          TV.agg
            [TV.v (Value.bool false), TV.lst C.str (cS (lfP l).fst), TV.v (Value.slice none 0 0),
              TV.lst C.i64 (inI l (cS (lfP l).fst).length)])
    else none
else none := by kernel_rfl
theorem lfP_len (l : List R24) : (lfP l).1.length ≤ l.length := by
  have hl : (l.take 40).length ≤ 40 := by rw [List.length_take]; omega
  obtain ⟨_, b⟩ := fold_ok (l.take 40) ([], []) 0 pre0 (Nat.le_refl 0) (by omega)
  rw [List.length_take] at b
  show ((l.take 40).foldl stL ([], [])).1.length ≤ _
  omega
def dL45 (objs : List (TO U)) (args : List (TV U)) : Option (List R24) := match objs, args with
  | [], [a0] =>
    match a0 with
    | .lst .t24 l =>
      some l
    | _ => none
  | _, _ => none
theorem dL45_ok {objs : List (TO U)} {args : List (TV U)} {l : List R24} (h : dL45 objs args = some l) : objs = [] ∧ args = [.lst .t24 l] := by
  unfold dL45 at h
  repeat' split at h
  all_goals first | (cases h; done) | (cases h; exact ⟨rfl, rfl⟩)
def sInn : Spc U := .of2 dL45 (fun _ => True) (fun l => (lfP l).1.isEmpty) (fun _ => []) (fun l => .agg [.v (.bool false), nlv, nlv, .lst .i64 (inI l 0)]) (fun _ => []) fun l => .agg [.v (.bool false), .lst .str (cS (lfP l).1), nlv, .lst .i64 (inI l (lfP l).1.length)]
theorem sInn_ok : SpecOk Try.prog 45 sInn := by
  refine fn_ok2 X_ok mixed Ei_ok an45 lp45 Try.func45 (by kernel_rfl) (by kernel_rfl) lp45_ok fun objs args l hx hp => ?_
  obtain ⟨rfl, rfl⟩ := dL45_ok hx
  refine (e45 l).trans ?_
  obtain ⟨h1, h2⟩ := lfP_ok l
  have h3 := lfP_len l
  rw [if_pos trivial]
  cases hq : (lfP l).1 with
  | nil => rw [List.isEmpty_nil, cond_true, if_pos (show P45 ⟨true, false, true, false, [], [], [], [5], l, 0⟩ from ⟨rfl, rfl, rfl, rfl, rfl, rfl, Nat.zero_le _, Nat.zero_le _⟩)]; rfl
  | cons x xs =>
    have e1 : cS (x :: xs) = x :: xs := rfl
    rw [hq] at h2 h3
    rw [e1]
    rw [List.isEmpty_cons, cond_false, if_pos (show P45 ⟨false, false, true, false, x :: xs, cV (lfP l).2, x :: xs, [5], l, 0⟩ from ⟨rfl, rfl, rfl, rfl, rfl, rfl, h3, h2⟩)]; rfl
end Go.Proofs.Ytmcflglkfgnbbaa.Nd

/- A leaf, or an inner node. -/
namespace Go.Proofs.Ytmcflglkfgnbbaa.Nd
open Go Go.RowKit Go.Proofs.Ytmcflglkfgnbbaa.Eng
set_option linter.unusedVariables false
set_option linter.unusedSimpArgs false
set_option maxRecDepth 20000
def Eei : FuncId → Option (Spc U)
  | 9 => some sLeaf
  | 45 => some sInn
  | _ => none
theorem Eei_ok : ∀ f S, Eei f = some S → SpecOk Try.prog f S := fun f S h => by
  unfold Eei at h
  split at h
  · cases h; exact sLeaf_ok
  · cases h; exact sInn_ok
  · cases h
theorem e18t (l : List
  R24) : (evFn X Eei an0 lp0 Try.f18 [] [TV.lst C.t24 l, TV.v (Value.bool true)] fun (o : List (TO X.U)) (v : TV X.U) =>
  some (o, v)) =
  if True then
  bif (lfP l).fst.isEmpty then
    some
      ([],
        TV.agg
          [TV.v (Value.bool true), TV.v (Value.slice none 0 0), TV.v (Value.slice none 0 0),
            TV.v (Value.slice none 0 0)])
  else
    some
      ([],
        TV.agg
          [TV.v (Value.bool true), TV.lst C.str (cS (lfP l).fst), TV.lst C.t33 (cV (lfP l).snd),
            TV.v (Value.slice none 0 0)])
else none := by kernel_rfl
theorem e18f (l : List
  R24) : (evFn X Eei an0 lp0 Try.f18 [] [TV.lst C.t24 l, TV.v (Value.bool false)]
  fun (o : List (TO X.U)) (v : TV X.U) => some (o, v)) =
  if True then
  bif (lfP l).fst.isEmpty then
    some
      ([],
        TV.agg
          [TV.v (Value.bool false), TV.v (Value.slice none 0 0), TV.v (Value.slice none 0 0), TV.lst C.i64 (inI l 0)])
  else
    some
      ([],
        TV.agg
          [TV.v (Value.bool false), TV.lst C.str (cS (lfP l).fst), TV.v (Value.slice none 0 0),
            TV.lst C.i64 (inI l (lfP l).fst.length)])
else none := by kernel_rfl
def d18 (objs : List (TO U)) (args : List (TV U)) : Option (List R24 × Bool) := match objs, args with
  | [], [a0, a1] =>
    match a0 with
    | .lst .t24 l =>
      match a1 with
      | .v (.bool b) =>
        some (l, b)
      | _ => none
    | _ => none
  | _, _ => none
theorem d18_ok {objs : List (TO U)} {args : List (TV U)} {l : List R24} {b : Bool} (h : d18 objs args = some (l, b)) : objs = [] ∧ args = [.lst .t24 l, .v (.bool b)] := by
  unfold d18 at h
  repeat' split at h
  all_goals first | (cases h; done) | (cases h; exact ⟨rfl, rfl⟩)
def isT : List (TV U) → Bool
  | [_, .v (.bool true)] => true
  | _ => false
def sEiT : Spc U := .of2 d18 (fun (l, b) => b = true) (fun (l, b) => (lfP l).1.isEmpty) (fun _ => []) (fun _ => .agg [.v (.bool true), nlv, nlv, nlv]) (fun _ => []) fun (l, b) => .agg [.v (.bool true), .lst .str (cS (lfP l).1), .lst .t33 (cV (lfP l).2), nlv]
def sEiF : Spc U := .of2 d18 (fun (l, b) => b = false) (fun (l, b) => (lfP l).1.isEmpty) (fun _ => []) (fun (l, b) => .agg [.v (.bool false), nlv, nlv, .lst .i64 (inI l 0)]) (fun _ => []) fun (l, b) => .agg [.v (.bool false), .lst .str (cS (lfP l).1), nlv, .lst .i64 (inI l (lfP l).1.length)]
theorem sEiT_ok : SpecOk Try.prog 18 sEiT := by
  refine fn_ok2 X_ok mixed Eei_ok an0 lp0 Try.func18 (by kernel_rfl) (by kernel_rfl) (lp0_ok (by kernel_rfl)) fun objs args x hx hp => ?_
  obtain ⟨l, b⟩ := x
  obtain ⟨rfl, rfl⟩ := d18_ok hx
  obtain rfl : b = true := hp
  refine (e18t l).trans ?_
  rw [if_pos trivial]
  dsimp only
  cases (lfP l).1.isEmpty <;> rfl
theorem sEiF_ok : SpecOk Try.prog 18 sEiF := by
  refine fn_ok2 X_ok mixed Eei_ok an0 lp0 Try.func18 (by kernel_rfl) (by kernel_rfl) (lp0_ok (by kernel_rfl)) fun objs args x hx hp => ?_
  obtain ⟨l, b⟩ := x
  obtain ⟨rfl, rfl⟩ := d18_ok hx
  obtain rfl : b = false := hp
  refine (e18f l).trans ?_
  rw [if_pos trivial]
  dsimp only
  cases (lfP l).1.isEmpty <;> rfl
def sEi : Spc U := alt isT sEiT sEiF
theorem sEi_ok : SpecOk Try.prog 18 sEi := alt_ok sEiT_ok sEiF_ok
end Go.Proofs.Ytmcflglkfgnbbaa.Nd

/- Bytes read: numbers. -/
namespace Go.Proofs.Ytmcflglkfgnbbaa.Nd
open Go Go.RowKit Go.Proofs.Ytmcflglkfgnbbaa.Eng
set_option linter.unusedVariables false
set_option linter.unusedSimpArgs false
set_option maxRecDepth 20000
/-- A reader. -/
structure Rd where
  S : ByteArray
  E : Int
def Rd.ob (r : Rd) : TO U := .cells [.v (.string r.S), .v (.int .i64 r.E)] false
def an53 : Ann := ⟨fun | 0 => 2083 | _ => 0, fun | 0 => 17 | _ => 0, fun _ => [], false⟩
theorem e54 (r : Rd) : (evFn X E0 an0 lp0 Try.f54 [r.ob] [TV.ref 0 0 0] fun (o : List (TO X.U)) (v : TV X.U) =>
  some (o, v)) =
  some
  ([TO.cells [TV.v (Value.string r.S), TV.v (Value.int IntKind.i64 r.E)] false],
    TV.v (Value.int IntKind.i64 r.E)) := by kernel_rfl
theorem e52 (s : ByteArray) : (evFn X E0 an0 lp0 Try.f52 [] [TV.v (Value.string s)]
  fun (o : List (TO X.U)) (v : TV X.U) => some (o, v)) =
  some ([TO.cells [TV.v (Value.string s), TV.v (Value.int IntKind.i64 0)] false], TV.ref 0 0 0) := by kernel_rfl
def dRd (objs : List (TO U)) (args : List (TV U)) : Option (Rd) := match objs, args with
  | [o0], [a0] =>
    match o0 with
    | .cells [q0, q1] false =>
      match q0 with
      | .v (.string r_S) =>
        match q1 with
        | .v (.int .i64 r_E) =>
          match a0 with
          | .ref 0 0 0 =>
            some (⟨r_S, r_E⟩ : Rd)
          | _ => none
        | _ => none
      | _ => none
    | _ => none
  | _, _ => none
theorem dRd_ok {objs : List (TO U)} {args : List (TV U)} {r : Rd} (h : dRd objs args = some r) : objs = [r.ob] ∧ args = [.ref 0 0 0] := by
  unfold dRd at h
  repeat' split at h
  all_goals first | (cases h; done) | (cases h; exact ⟨rfl, rfl⟩)
def sErr : Spc U := .of dRd (fun _ => True) (fun r => [r.ob]) fun r => .v (.int .i64 r.E)
theorem sErr_ok : SpecOk Try.prog 54 sErr := by
  refine fn_ok X_ok mixed E0_ok an0 lp0 Try.func54 (by kernel_rfl) (by kernel_rfl) (lp0_ok (by kernel_rfl)) fun objs args r hx hp => ?_
  obtain ⟨rfl, rfl⟩ := dRd_ok hx
  exact e54 r
def sNew : Spc U := .of dStr (fun _ => True) (fun s => [Rd.ob ⟨s, 0⟩]) fun _ => .ref 0 0 0
theorem sNew_ok : SpecOk Try.prog 52 sNew := by
  refine fn_ok X_ok mixed E0_ok an0 lp0 Try.func52 (by kernel_rfl) (by kernel_rfl) (lp0_ok (by kernel_rfl)) fun objs args s hx hp => ?_
  obtain ⟨rfl, rfl⟩ := dStr_ok hx
  exact e52 s
def Ee : FuncId → Option (Spc U)
  | 54 => some sErr
  | _ => none
theorem Ee_ok : ∀ f S, Ee f = some S → SpecOk Try.prog f S := fun f S h => by
  unfold Ee at h
  split at h
  · cases h; exact sErr_ok
  · cases h
def S53 (r : Rd) (m a i : Int) : TS U := mkS 73 [(0, .ref 0 0 0), (1, .v (.int .u64 m)), (5, .v (.int .u64 a)), (11, .v (.int .i64 i))] [r.ob] 1
def accN (a n i : Int) : Int := IntKind.u64.wrap (↑(BitVec.ofInt IntKind.u64.bits a ||| BitVec.ofInt IntKind.u64.bits (IntKind.u64.wrap (IntKind.u64.wrap (IntKind.u8.wrap (↑(BitVec.ofInt IntKind.u8.bits n &&& BitVec.ofInt IntKind.u8.bits 127).toNat : Int)) * 2 ^ min (IntKind.i64.wrap (7 * i)).toNat IntKind.u64.bits))).toNat : Int)
def hiN (n : Int) : Bool := !decide (IntKind.u8.wrap (↑(BitVec.ofInt IntKind.u8.bits n &&& BitVec.ofInt IntKind.u8.bits 128).toNat : Int) = 0)
def Z53 (s : ByteArray) (e a : Int) : TS U := mkS 73 [(0, .ref 0 0 0), (4, .v (.int .u64 a))] [Rd.ob ⟨s, e⟩] 1
theorem r53 (lp : Lp
  U) (N : Nat) (r : Rd) (m : Int) (a : Int) (i : Int) : (fnLoop X Ee an53 lp Try.f53 0 N.succ (S53 r m a i)) =
  bif decide (i < 10) then
  bif decide (i = (↑r.S.size : Int)) then none
  else
    (getB r.S i).bind fun (n : Int) =>
      bif decide (i = 9) then
        bif decide (1 < n) then some (Exit.exit 0, mkS 73 [(0, TV.ref 0 0 0)] [r.ob] 1)
        else
          bif decide (0 < i) then
            bif decide (n = 0) then some (Exit.exit 0, mkS 73 [(0, TV.ref 0 0 0)] [r.ob] 1)
            else
              if IntKind.i64.wrap (7 * i) < 0 then none
              else
                bif
                    !decide
                        (IntKind.u8.wrap
                            (↑(BitVec.ofInt IntKind.u8.bits n &&& BitVec.ofInt IntKind.u8.bits 128).toNat : Int) =
                          0) then
                  fnLoop X Ee an53 lp Try.f53 0 N
                    (mkS 73
                      [(0, TV.ref 0 0 0), (1, TV.v (Value.int IntKind.u64 m)),
                        (5,
                          TV.v
                            (Value.int IntKind.u64
                              (IntKind.u64.wrap
                                (↑(BitVec.ofInt IntKind.u64.bits a |||
                                        BitVec.ofInt IntKind.u64.bits
                                          (IntKind.u64.wrap
                                            (IntKind.u64.wrap
                                                (IntKind.u8.wrap
                                                  (↑(BitVec.ofInt IntKind.u8.bits n &&&
                                                          BitVec.ofInt IntKind.u8.bits 127).toNat :
                                                    Int)) *
                                              2 ^ min (IntKind.i64.wrap (7 * i)).toNat IntKind.u64.bits))).toNat :
                                  Int)))),
                        (11, TV.v (Value.int IntKind.i64 (IntKind.i64.wrap (i + 1))))]
                      [r.ob] 1)
                else
                  bif
                      decide
                        (m <
                          IntKind.u64.wrap
                            (↑(BitVec.ofInt IntKind.u64.bits a |||
                                    BitVec.ofInt IntKind.u64.bits
                                      (IntKind.u64.wrap
                                        (IntKind.u64.wrap
                                            (IntKind.u8.wrap
                                              (↑(BitVec.ofInt IntKind.u8.bits n &&&
                                                      BitVec.ofInt IntKind.u8.bits 127).toNat :
                                                Int)) *
                                          2 ^ min (IntKind.i64.wrap (7 * i)).toNat IntKind.u64.bits))).toNat :
                              Int)) then
                    none
                  else
                    (cutB r.S (some (IntKind.i64.wrap (i + 1))) none).bind fun (c : ByteArray) =>
                      some
                        (Exit.ret,
                          mkS 73
                            [(0, TV.ref 0 0 0),
                              (4,
                                TV.v
                                  (Value.int IntKind.u64
                                    (IntKind.u64.wrap
                                      (↑(BitVec.ofInt IntKind.u64.bits a |||
                                              BitVec.ofInt IntKind.u64.bits
                                                (IntKind.u64.wrap
                                                  (IntKind.u64.wrap
                                                      (IntKind.u8.wrap
                                                        (↑(BitVec.ofInt IntKind.u8.bits n &&&
                                                                BitVec.ofInt IntKind.u8.bits 127).toNat :
                                                          Int)) *
                                                    2 ^ min (IntKind.i64.wrap (7 * i)).toNat IntKind.u64.bits))).toNat :
                                        Int))))]
                            [TO.cells [TV.v (Value.string c), TV.v (Value.int IntKind.i64 r.E)] false] 1)
          else
            if IntKind.i64.wrap (7 * i) < 0 then none
            else
              bif
                  !decide
                      (IntKind.u8.wrap
                          (↑(BitVec.ofInt IntKind.u8.bits n &&& BitVec.ofInt IntKind.u8.bits 128).toNat : Int) =
                        0) then
                fnLoop X Ee an53 lp Try.f53 0 N
                  (mkS 73
                    [(0, TV.ref 0 0 0), (1, TV.v (Value.int IntKind.u64 m)),
                      (5,
                        TV.v
                          (Value.int IntKind.u64
                            (IntKind.u64.wrap
                              (↑(BitVec.ofInt IntKind.u64.bits a |||
                                      BitVec.ofInt IntKind.u64.bits
                                        (IntKind.u64.wrap
                                          (IntKind.u64.wrap
                                              (IntKind.u8.wrap
                                                (↑(BitVec.ofInt IntKind.u8.bits n &&&
                                                        BitVec.ofInt IntKind.u8.bits 127).toNat :
                                                  Int)) *
                                            2 ^ min (IntKind.i64.wrap (7 * i)).toNat IntKind.u64.bits))).toNat :
                                Int)))),
                      (11, TV.v (Value.int IntKind.i64 (IntKind.i64.wrap (i + 1))))]
                    [r.ob] 1)
              else
                bif
                    decide
                      (m <
                        IntKind.u64.wrap
                          (↑(BitVec.ofInt IntKind.u64.bits a |||
                                  BitVec.ofInt IntKind.u64.bits
                                    (IntKind.u64.wrap
                                      (IntKind.u64.wrap
                                          (IntKind.u8.wrap
                                            (↑(BitVec.ofInt IntKind.u8.bits n &&&
                                                    BitVec.ofInt IntKind.u8.bits 127).toNat :
                                              Int)) *
                                        2 ^ min (IntKind.i64.wrap (7 * i)).toNat IntKind.u64.bits))).toNat :
                            Int)) then
                  none
                else
                  (cutB r.S (some (IntKind.i64.wrap (i + 1))) none).bind fun (c : ByteArray) =>
                    some
                      (Exit.ret,
                        mkS 73
                          [(0, TV.ref 0 0 0),
                            (4,
                              TV.v
                                (Value.int IntKind.u64
                                  (IntKind.u64.wrap
                                    (↑(BitVec.ofInt IntKind.u64.bits a |||
                                            BitVec.ofInt IntKind.u64.bits
                                              (IntKind.u64.wrap
                                                (IntKind.u64.wrap
                                                    (IntKind.u8.wrap
                                                      (↑(BitVec.ofInt IntKind.u8.bits n &&&
                                                              BitVec.ofInt IntKind.u8.bits 127).toNat :
                                                        Int)) *
                                                  2 ^ min (IntKind.i64.wrap (7 * i)).toNat IntKind.u64.bits))).toNat :
                                      Int))))]
                          [TO.cells [TV.v (Value.string c), TV.v (Value.int IntKind.i64 r.E)] false] 1)
      else
        bif decide (0 < i) then
          bif decide (n = 0) then some (Exit.exit 0, mkS 73 [(0, TV.ref 0 0 0)] [r.ob] 1)
          else
            if IntKind.i64.wrap (7 * i) < 0 then none
            else
              bif
                  !decide
                      (IntKind.u8.wrap
                          (↑(BitVec.ofInt IntKind.u8.bits n &&& BitVec.ofInt IntKind.u8.bits 128).toNat : Int) =
                        0) then
                fnLoop X Ee an53 lp Try.f53 0 N
                  (mkS 73
                    [(0, TV.ref 0 0 0), (1, TV.v (Value.int IntKind.u64 m)),
                      (5,
                        TV.v
                          (Value.int IntKind.u64
                            (IntKind.u64.wrap
                              (↑(BitVec.ofInt IntKind.u64.bits a |||
                                      BitVec.ofInt IntKind.u64.bits
                                        (IntKind.u64.wrap
                                          (IntKind.u64.wrap
                                              (IntKind.u8.wrap
                                                (↑(BitVec.ofInt IntKind.u8.bits n &&&
                                                        BitVec.ofInt IntKind.u8.bits 127).toNat :
                                                  Int)) *
                                            2 ^ min (IntKind.i64.wrap (7 * i)).toNat IntKind.u64.bits))).toNat :
                                Int)))),
                      (11, TV.v (Value.int IntKind.i64 (IntKind.i64.wrap (i + 1))))]
                    [r.ob] 1)
              else
                bif
                    decide
                      (m <
                        IntKind.u64.wrap
                          (↑(BitVec.ofInt IntKind.u64.bits a |||
                                  BitVec.ofInt IntKind.u64.bits
                                    (IntKind.u64.wrap
                                      (IntKind.u64.wrap
                                          (IntKind.u8.wrap
                                            (↑(BitVec.ofInt IntKind.u8.bits n &&&
                                                    BitVec.ofInt IntKind.u8.bits 127).toNat :
                                              Int)) *
                                        2 ^ min (IntKind.i64.wrap (7 * i)).toNat IntKind.u64.bits))).toNat :
                            Int)) then
                  none
                else
                  (cutB r.S (some (IntKind.i64.wrap (i + 1))) none).bind fun (c : ByteArray) =>
                    some
                      (Exit.ret,
                        mkS 73
                          [(0, TV.ref 0 0 0),
                            (4,
                              TV.v
                                (Value.int IntKind.u64
                                  (IntKind.u64.wrap
                                    (↑(BitVec.ofInt IntKind.u64.bits a |||
                                            BitVec.ofInt IntKind.u64.bits
                                              (IntKind.u64.wrap
                                                (IntKind.u64.wrap
                                                    (IntKind.u8.wrap
                                                      (↑(BitVec.ofInt IntKind.u8.bits n &&&
                                                              BitVec.ofInt IntKind.u8.bits 127).toNat :
                                                        Int)) *
                                                  2 ^ min (IntKind.i64.wrap (7 * i)).toNat IntKind.u64.bits))).toNat :
                                      Int))))]
                          [TO.cells [TV.v (Value.string c), TV.v (Value.int IntKind.i64 r.E)] false] 1)
        else
          if IntKind.i64.wrap (7 * i) < 0 then none
          else
            bif
                !decide
                    (IntKind.u8.wrap
                        (↑(BitVec.ofInt IntKind.u8.bits n &&& BitVec.ofInt IntKind.u8.bits 128).toNat : Int) =
                      0) then
              fnLoop X Ee an53 lp Try.f53 0 N
                (mkS 73
                  [(0, TV.ref 0 0 0), (1, TV.v (Value.int IntKind.u64 m)),
                    (5,
                      TV.v
                        (Value.int IntKind.u64
                          (IntKind.u64.wrap
                            (↑(BitVec.ofInt IntKind.u64.bits a |||
                                    BitVec.ofInt IntKind.u64.bits
                                      (IntKind.u64.wrap
                                        (IntKind.u64.wrap
                                            (IntKind.u8.wrap
                                              (↑(BitVec.ofInt IntKind.u8.bits n &&&
                                                      BitVec.ofInt IntKind.u8.bits 127).toNat :
                                                Int)) *
                                          2 ^ min (IntKind.i64.wrap (7 * i)).toNat IntKind.u64.bits))).toNat :
                              Int)))),
                    (11, TV.v (Value.int IntKind.i64 (IntKind.i64.wrap (i + 1))))]
                  [r.ob] 1)
            else
              bif
                  decide
                    (m <
                      IntKind.u64.wrap
                        (↑(BitVec.ofInt IntKind.u64.bits a |||
                                BitVec.ofInt IntKind.u64.bits
                                  (IntKind.u64.wrap
                                    (IntKind.u64.wrap
                                        (IntKind.u8.wrap
                                          (↑(BitVec.ofInt IntKind.u8.bits n &&&
                                                  BitVec.ofInt IntKind.u8.bits 127).toNat :
                                            Int)) *
                                      2 ^ min (IntKind.i64.wrap (7 * i)).toNat IntKind.u64.bits))).toNat :
                          Int)) then
                none
              else
                (cutB r.S (some (IntKind.i64.wrap (i + 1))) none).bind fun (c : ByteArray) =>
                  some
                    (Exit.ret,
                      mkS 73
                        [(0, TV.ref 0 0 0),
                          (4,
                            TV.v
                              (Value.int IntKind.u64
                                (IntKind.u64.wrap
                                  (↑(BitVec.ofInt IntKind.u64.bits a |||
                                          BitVec.ofInt IntKind.u64.bits
                                            (IntKind.u64.wrap
                                              (IntKind.u64.wrap
                                                  (IntKind.u8.wrap
                                                    (↑(BitVec.ofInt IntKind.u8.bits n &&&
                                                            BitVec.ofInt IntKind.u8.bits 127).toNat :
                                                      Int)) *
                                                2 ^ min (IntKind.i64.wrap (7 * i)).toNat IntKind.u64.bits))).toNat :
                                    Int))))]
                        [TO.cells [TV.v (Value.string c), TV.v (Value.int IntKind.i64 r.E)] false] 1)
else some (Exit.exit 0, mkS 73 [(0, TV.ref 0 0 0)] [r.ob] 1) := by kernel_rfl
theorem round53 (lp : Lp U) (N : Nat) {r : Rd} {m a i c : Int} (h0 : 0 ≤ i) (h1 : i < 10) (h2 : i < r.S.size) (hc : getB r.S i = some c) (h9 : i = 9 → c ≤ 1) (hz : 0 < i → c ≠ 0) :
    fnLoop X Ee an53 lp Try.f53 0 (N + 1) (S53 r m a i) = cond (hiN c) (fnLoop X Ee an53 lp Try.f53 0 N (S53 r m (accN a c i) (i + 1))) (cond (decide (m < accN a c i)) none ((cutB r.S (some (i + 1)) none).bind fun s => some (.ret, Z53 s r.E (accN a c i)))) := by
  have w1 : IntKind.i64.wrap (i + 1) = i + 1 := wr (by omega) (by omega)
  have w7 : ¬ IntKind.i64.wrap (7 * i) < 0 := by rw [wr (a := 7 * i) (by omega) (by omega)]; omega
  rw [r53, decide_eq_true h1, cond_true, decide_eq_false (by omega), cond_false, hc, Option.bind_some]
  by_cases k9 : i = 9
  · have := h9 k9
    rw [decide_eq_true k9, cond_true, decide_eq_false (by omega), cond_false, decide_eq_true (by omega), cond_true, decide_eq_false (hz (by omega)), cond_false, if_neg w7, w1]
    rfl
  · rw [decide_eq_false k9, cond_false]
    by_cases k0 : 0 < i
    · rw [decide_eq_true k0, cond_true, decide_eq_false (hz k0), cond_false, if_neg w7, w1]
      rfl
    · rw [decide_eq_false k0, cond_false, if_neg w7, w1]
      rfl
theorem and127 {n : Nat} (h : n < 256) : IntKind.u8.wrap (↑(BitVec.ofInt IntKind.u8.bits (n : Int) &&& BitVec.ofInt IntKind.u8.bits 127).toNat : Int) = ((n % 128 : Nat) : Int) := by
  have key : ∀ k : Fin 256, (BitVec.ofInt IntKind.u8.bits ((k.val : Nat) : Int) &&& BitVec.ofInt IntKind.u8.bits 127).toNat = k.val % 128 := by decide +kernel
  have := key ⟨n, h⟩
  dsimp only at this
  rw [this, wrap_u8]
  omega
theorem hiN_nat {n : Nat} (h : n < 256) : hiN (n : Int) = decide (128 ≤ n) := by
  have key : ∀ k : Fin 256, hiN ((k.val : Nat) : Int) = decide (128 ≤ k.val) := by decide +kernel
  exact key ⟨n, h⟩
theorem ofInt_nat {n : Nat} (h : n < 2 ^ 64) : (BitVec.ofInt 64 (n : Int)).toNat = n := by
  rw [BitVec.ofInt_natCast, BitVec.toNat_ofNat, Nat.mod_eq_of_lt h]
theorem accN_nat {a n i : Nat} (ha : a < 2 ^ (7 * i)) (hn : n < 256) (hi : i < 10) (hb : a + n % 128 * 2 ^ (7 * i) < 2 ^ 64) : accN (a : Int) (n : Int) (i : Int) = ((a + n % 128 * 2 ^ (7 * i) : Nat) : Int) := by
  have hm : min (IntKind.i64.wrap (7 * (i : Int))).toNat IntKind.u64.bits = 7 * i := by
    rw [wr (a := 7 * (i : Int)) (by omega) (by omega)]
    show min (7 * (i : Int)).toNat 64 = _
    omega
  have hp : n % 128 * 2 ^ (7 * i) < 2 ^ 64 := by omega
  have e1 : IntKind.u64.wrap (IntKind.u64.wrap ((n % 128 : Nat) : Int) * 2 ^ (7 * i)) = ((n % 128 * 2 ^ (7 * i) : Nat) : Int) := by
    rw [u64_id (n := ((n % 128 : Nat) : Int)) (by omega) (by omega)]
    have : ((n % 128 : Nat) : Int) * 2 ^ (7 * i) = ((n % 128 * 2 ^ (7 * i) : Nat) : Int) := by rw [Int.natCast_mul, Int.natCast_pow]; rfl
    rw [this]
    exact u64_id (by omega) (by omega)
  unfold accN
  rw [hm, and127 hn, e1]
  have e2 : (BitVec.ofInt IntKind.u64.bits (a : Int) ||| BitVec.ofInt IntKind.u64.bits ((n % 128 * 2 ^ (7 * i) : Nat) : Int)).toNat = a + n % 128 * 2 ^ (7 * i) := by
    show (BitVec.ofInt 64 (a : Int) ||| BitVec.ofInt 64 ((n % 128 * 2 ^ (7 * i) : Nat) : Int)).toNat = _
    rw [BitVec.toNat_or, ofInt_nat (by omega), ofInt_nat hp]
    have := Nat.shiftLeft_add_eq_or_of_lt ha (n % 128)
    rw [Nat.shiftLeft_eq] at this
    rw [Nat.or_comm, ← this, Nat.add_comm]
  rw [e2]
  exact u64_id (by omega) (by omega)
end Go.Proofs.Ytmcflglkfgnbbaa.Nd

/- Bytes read: a number that was written is read again. -/
namespace Go.Proofs.Ytmcflglkfgnbbaa.Nd
open Go Go.RowKit Go.Proofs.Ytmcflglkfgnbbaa.Eng
set_option linter.unusedVariables false
set_option linter.unusedSimpArgs false
set_option maxRecDepth 20000
theorem tl8_drop (b : ByteArray) (k : Nat) : tl8 (b.extract k b.size) = (tl8 b).drop k := by
  unfold tl8
  rw [ByteArray.data_extract, Array.toList_extract, List.extract_eq_take_drop, List.take_of_length_le]
  rw [List.length_drop, Array.length_toList]
  exact Nat.le_refl _
theorem tl8_take (b : ByteArray) (k : Nat) : tl8 (b.extract 0 k) = (tl8 b).take k := by
  unfold tl8
  rw [ByteArray.data_extract, Array.toList_extract, List.extract_eq_take_drop, List.drop_zero, Nat.sub_zero]
theorem getB_at {b : ByteArray} {p s : List UInt8} {c : UInt8} (h : tl8 b = p ++ c :: s) : getB b (p.length : Int) = some (c.toNat : Int) := by
  have h1 : (tl8 b)[p.length]? = some c := by rw [h, List.getElem?_append_right (Nat.le_refl _), Nat.sub_self]; rfl
  have h2 : b.data[p.length]? = some c := by rw [← Array.getElem?_toList]; exact h1
  unfold getB
  rw [if_pos (by omega), Int.toNat_natCast, h2]
  rfl
theorem cutB_at {b r : ByteArray} {k : Nat} (h : (tl8 b).drop k = tl8 r) (hk : k ≤ b.size) : cutB b (some (k : Int)) none = some r := by
  unfold cutB
  dsimp only
  rw [if_pos (by omega), Int.toNat_natCast]
  congr 1
  exact tl8_inj (by rw [tl8_drop, h])
theorem rounds53 (lp : Lp U) {n m : Nat} (hn : n ≤ m) (h64 : n < 2 ^ 64) {s r : ByteArray} : ∀ (q j : Nat) (p : List UInt8), q = n / 2 ^ (7 * j) → tl8 s = p ++ (bL q ++ tl8 r) → p.length = j → j < 10 → (0 < j → q ≠ 0) →
    ∃ N, fnLoop X Ee an53 lp Try.f53 0 N (S53 ⟨s, 0⟩ m ((n % 2 ^ (7 * j) : Nat) : Int) j) = some (.ret, Z53 r 0 n) := by
  intro q
  induction q using Nat.strongRecOn with
  | ind q ih =>
    intro j p hq hs hp hj h0
    have hlen : s.size = p.length + ((bL q).length + (tl8 r).length) := by rw [← tl8_len, hs, List.length_append, List.length_append]
    have hmod : n % 2 ^ (7 * (j + 1)) = n % 2 ^ (7 * j) + q % 128 * 2 ^ (7 * j) := by
      rw [show 7 * (j + 1) = 7 * j + 7 by omega, Nat.pow_add, Nat.mod_mul, ← hq, Nat.mul_comm (2 ^ (7 * j))]
    have hlt : n % 2 ^ (7 * j) < 2 ^ (7 * j) := Nat.mod_lt _ (Nat.two_pow_pos _)
    have hle : n % 2 ^ (7 * (j + 1)) ≤ n := Nat.mod_le _ _
    have q9 : j = 9 → q ≤ 1 := fun h => by
      subst h
      have : n / 2 ^ (7 * 9) < 2 := (Nat.div_lt_iff_lt_mul (by decide)).2 (by omega)
      omega
    by_cases h : q < 128
    · have hb : bL q = [UInt8.ofNat q] := by unfold bL; rw [if_pos h]
      rw [hb] at hs hlen
      have hc := getB_at (c := UInt8.ofNat q) (s := tl8 r) (p := p) hs
      rw [show (UInt8.ofNat q).toNat = q by rw [UInt8.toNat_ofNat']; omega, hp] at hc
      have hlen : s.size = j + (1 + (tl8 r).length) := by rw [hlen, hp]; rfl
      have hall : n % 2 ^ (7 * (j + 1)) = n := by
        rw [hmod, Nat.mod_eq_of_lt h, hq, Nat.add_comm, Nat.mul_comm]
        exact Nat.div_add_mod n _
      have ha := accN_nat hlt (show q < 256 by omega) hj (by rw [← hmod]; omega)
      rw [← hmod, hall] at ha
      refine ⟨1, ?_⟩
      rw [round53 lp 0 (r := ⟨s, 0⟩) (c := (q : Int)) (by omega) (by omega) (by show (j : Int) < (s.size : Int); omega) hc (fun h9 => by have := q9 (by omega); omega) (fun hj0 => by have := h0 (by omega); omega),
        hiN_nat (by omega), decide_eq_false (by omega), cond_false, ha, decide_eq_false (by omega), cond_false]
      have hcut := cutB_at (b := s) (r := r) (k := j + 1) (by
        rw [hs, ← hp]; simp) (by omega)
      rw [Int.natCast_add] at hcut
      show ((cutB s (some ((j : Int) + 1)) none).bind _) = _
      rw [show ((j : Int) + 1) = (j : Int) + ((1 : Nat) : Int) from rfl, hcut]
      rfl
    · have hb : bL q = UInt8.ofNat (128 + q % 128) :: bL (q / 128) := by conv => lhs; unfold bL; rw [if_neg h]
      rw [hb] at hs hlen
      have hc := getB_at (c := UInt8.ofNat (128 + q % 128)) (s := bL (q / 128) ++ tl8 r) (p := p) hs
      rw [show (UInt8.ofNat (128 + q % 128)).toNat = 128 + q % 128 by rw [UInt8.toNat_ofNat']; omega, hp] at hc
      have hlen : s.size = j + (((bL (q / 128)).length + 1) + (tl8 r).length) := by rw [hlen, hp]; rfl
      have ha := accN_nat (n := 128 + q % 128) hlt (by omega) hj (by rw [show (128 + q % 128) % 128 = q % 128 by omega, ← hmod]; omega)
      rw [show (128 + q % 128) % 128 = q % 128 by omega, ← hmod] at ha
      have hj9 : j ≠ 9 := fun h9 => by have := q9 h9; omega
      obtain ⟨N, hN⟩ := ih (q / 128) (by omega) (j + 1) (p ++ [UInt8.ofNat (128 + q % 128)]) (by
        rw [hq, Nat.div_div_eq_div_mul, show 7 * (j + 1) = 7 * j + 7 by omega, Nat.pow_add]) (by rw [hs, List.append_assoc]; rfl) (by rw [List.length_append, hp]; rfl) (by omega) (by omega)
      refine ⟨N + 1, ?_⟩
      rw [round53 lp N (r := ⟨s, 0⟩) (c := ((128 + q % 128 : Nat) : Int)) (by omega) (by omega) (by show (j : Int) < (s.size : Int); omega) hc (fun h9 => by omega) (fun hj0 => by omega),
        hiN_nat (by omega), decide_eq_true (by omega), cond_true, ha]
      exact hN
/-- Bytes that begin with a number up to a limit; the number; what is left. -/
def RN (s : ByteArray) (m : Int) : Prop := ∃ (n : Nat) (r : ByteArray), tl8 s = bL n ++ tl8 r ∧ (n : Int) ≤ m ∧ n < 2 ^ 64
noncomputable instance (s : ByteArray) (m : Int) : Decidable (RN s m) := Classical.propDecidable _
open Classical in
noncomputable def nvN (s : ByteArray) : Int := if h : ∃ (n : Nat) (r : ByteArray), tl8 s = bL n ++ tl8 r then (h.choose : Int) else 0
open Classical in
noncomputable def nrN (s : ByteArray) : ByteArray := if h : ∃ (n : Nat) (r : ByteArray), tl8 s = bL n ++ tl8 r then h.choose_spec.choose else .empty
theorem nvN_of {s : ByteArray} {n : Nat} {r : ByteArray} (h : tl8 s = bL n ++ tl8 r) : nvN s = n ∧ nrN s = r := by
  have hx : ∃ (n : Nat) (r : ByteArray), tl8 s = bL n ++ tl8 r := ⟨n, r, h⟩
  have h2 := hx.choose_spec.choose_spec
  obtain ⟨h3, h4⟩ := bL_inj _ _ (h.symm.trans h2)
  unfold nvN nrN
  rw [dif_pos hx, dif_pos hx]
  exact ⟨by rw [← h3], (tl8_inj h4).symm⟩
def P53 (r : Rd) (m a i : Int) : Prop := r.E = 0 ∧ RN r.S m ∧ a = 0 ∧ i = 0
noncomputable instance (r : Rd) (m a i : Int) : Decidable (P53 r m a i) := Classical.propDecidable _
def dl53 (s : TS U) : Option (Rd × Int × Int × Int) := match told s 73 [0, 1, 5, 11] 1, s.objs with
  | some [a0, a1, a2, a3], [o0] =>
    match o0 with
    | .cells [q0, q1] false =>
      match q0 with
      | .v (.string r_S) =>
        match q1 with
        | .v (.int .i64 r_E) =>
          match a0 with
          | .ref 0 0 0 =>
            match a1 with
            | .v (.int .u64 m) =>
              match a2 with
              | .v (.int .u64 a) =>
                match a3 with
                | .v (.int .i64 i) =>
                  some ((⟨r_S, r_E⟩ : Rd), m, a, i)
                | _ => none
              | _ => none
            | _ => none
          | _ => none
        | _ => none
      | _ => none
    | _ => none
  | _, _ => none
theorem dl53_ok {s : TS U} {r : Rd} {m : Int} {a : Int} {i : Int} (h : dl53 s = some (r, m, a, i)) : s = mkS (U := U) 73 ([0, 1, 5, 11].zip ([.ref 0 0 0, .v (.int .u64 m), .v (.int .u64 a), .v (.int .i64 i)] : List (TV U))) ([r.ob] : List (TO U)) 1 := by
  unfold dl53 at h
  split at h <;> try (cases h; done)
  rename_i ht ho
  have hs := told_ok ht
  rw [ho] at hs
  repeat' split at h
  all_goals first | (cases h; done) | (cases h; exact hs)
noncomputable def lc53 : LC U := .of dl53 (fun (r, m, a, i) => P53 r m a i) .ret (fun (r, m, a, i) => Z53 (nrN r.S) 0 (nvN r.S))
noncomputable def lp53 : Lp U := lpL [(0, lc53)]
theorem lp53_ok : ∀ c, Try.f53.body = some c → LpOk X Ee an53 lp53 (loops c 0) := lpL_ok (by kernel_rfl) fun b L hm st p hs => by
  cases hm with
  | tail _ h => cases h
  | head =>
    obtain ⟨⟨r, m, a, i⟩, hx, ⟨h1, ⟨n, t, h2, h3, h4⟩, rfl, rfl⟩, rfl⟩ := LC.of_some hs
    obtain rfl := dl53_ok hx
    obtain ⟨s, e⟩ := r
    obtain rfl : e = 0 := h1
    obtain ⟨e1, e2⟩ := nvN_of h2
    obtain ⟨M, rfl⟩ : ∃ M : Nat, m = M := ⟨m.toNat, by omega⟩
    obtain ⟨N, hN⟩ := rounds53 (lpL [(0, lc53)]) (n := n) (m := M) (by omega) h4 (s := s) (r := t) n 0 [] (by rw [Nat.mul_zero, Nat.pow_zero, Nat.div_one]) h2 rfl (by omega) (by omega)
    rw [Nat.mul_zero, Nat.pow_zero, Nat.mod_one] at hN
    refine ⟨N, ?_⟩
    show fnLoop X Ee an53 (lpL [(0, lc53)]) Try.f53 0 N (S53 ⟨s, 0⟩ M 0 0) = some (.ret, Z53 (nrN s) 0 (nvN s))
    rw [e1, e2]
    exact hN
theorem e53 (r : Rd) (m : Int) : (evFn X Ee an53 lp53 Try.f53 [r.ob] [TV.ref 0 0 0, TV.v (Value.int IntKind.u64 m)]
  fun (o : List (TO X.U)) (v : TV X.U) => some (o, v)) =
  if True then
  bif !decide (r.E = 0) then some ([r.ob], TV.v (Value.int IntKind.u64 0))
  else
    if P53 r m 0 0 then
      some
        ([TO.cells [TV.v (Value.string (nrN r.S)), TV.v (Value.int IntKind.i64 0)] false],
          TV.v (Value.int IntKind.u64 (nvN r.S)))
    else none
else none := by kernel_rfl
def PNv (r : Rd) (m : Int) : Prop := r.E = 0 ∧ RN r.S m
noncomputable instance (r : Rd) (m : Int) : Decidable (PNv r m) := Classical.propDecidable _
def dNv (objs : List (TO U)) (args : List (TV U)) : Option (Rd × Int) := match objs, args with
  | [o0], [a0, a1] =>
    match o0 with
    | .cells [q0, q1] false =>
      match q0 with
      | .v (.string r_S) =>
        match q1 with
        | .v (.int .i64 r_E) =>
          match a0 with
          | .ref 0 0 0 =>
            match a1 with
            | .v (.int .u64 m) =>
              some ((⟨r_S, r_E⟩ : Rd), m)
            | _ => none
          | _ => none
        | _ => none
      | _ => none
    | _ => none
  | _, _ => none
theorem dNv_ok {objs : List (TO U)} {args : List (TV U)} {r : Rd} {m : Int} (h : dNv objs args = some (r, m)) : objs = [r.ob] ∧ args = [.ref 0 0 0, .v (.int .u64 m)] := by
  unfold dNv at h
  repeat' split at h
  all_goals first | (cases h; done) | (cases h; exact ⟨rfl, rfl⟩)
noncomputable def sNv : Spc U := .of dNv (fun (r, m) => PNv r m) (fun (r, m) => [Rd.ob ⟨nrN r.S, 0⟩]) fun (r, m) => .v (.int .u64 (nvN r.S))
theorem sNv_ok : SpecOk Try.prog 53 sNv := by
  refine fn_ok X_ok mixed Ee_ok an53 lp53 Try.func53 (by kernel_rfl) (by kernel_rfl) lp53_ok fun objs args x hx hp => ?_
  obtain ⟨r, m⟩ := x
  obtain ⟨rfl, rfl⟩ := dNv_ok hx
  obtain ⟨h1, h2⟩ := hp
  refine (e53 r m).trans ?_
  rw [if_pos trivial, decide_eq_true h1, Bool.not_true, cond_false, if_pos ⟨h1, h2, rfl, rfl⟩]
  rfl
/-! ### So many bytes -/
def PTk (r : Rd) (n : Int) : Prop := r.E = 0 ∧ 0 ≤ n ∧ n ≤ r.S.size
instance (r : Rd) (n : Int) : Decidable (PTk r n) := by unfold PTk; infer_instance
def tkB (s : ByteArray) (n : Int) : ByteArray := s.extract 0 n.toNat
def drB (s : ByteArray) (n : Int) : ByteArray := s.extract n.toNat s.size
theorem e79 (r : Rd) (n : Int) : (evFn X Ee an0 lp0 Try.f79 [r.ob] [TV.ref 0 0 0, TV.v (Value.int IntKind.i64 n)]
  fun (o : List (TO X.U)) (v : TV X.U) => some (o, v)) =
  if True then
  bif !decide (r.E = 0) then none
  else
    bif decide (n < 0) then none
    else
      bif decide ((↑r.S.size : Int) < n) then none
      else
        (cutB r.S none (some n)).bind fun (c : ByteArray) =>
          (cutB r.S (some n) none).bind fun (c_1 : ByteArray) =>
            some ([TO.cells [TV.v (Value.string c_1), TV.v (Value.int IntKind.i64 r.E)] false], TV.v (Value.string c))
else none := by kernel_rfl
def dTk (objs : List (TO U)) (args : List (TV U)) : Option (Rd × Int) := match objs, args with
  | [o0], [a0, a1] =>
    match o0 with
    | .cells [q0, q1] false =>
      match q0 with
      | .v (.string r_S) =>
        match q1 with
        | .v (.int .i64 r_E) =>
          match a0 with
          | .ref 0 0 0 =>
            match a1 with
            | .v (.int .i64 n) =>
              some ((⟨r_S, r_E⟩ : Rd), n)
            | _ => none
          | _ => none
        | _ => none
      | _ => none
    | _ => none
  | _, _ => none
theorem dTk_ok {objs : List (TO U)} {args : List (TV U)} {r : Rd} {n : Int} (h : dTk objs args = some (r, n)) : objs = [r.ob] ∧ args = [.ref 0 0 0, .v (.int .i64 n)] := by
  unfold dTk at h
  repeat' split at h
  all_goals first | (cases h; done) | (cases h; exact ⟨rfl, rfl⟩)
def sTk : Spc U := .of dTk (fun (r, n) => PTk r n) (fun (r, n) => [Rd.ob ⟨drB r.S n, 0⟩]) fun (r, n) => .v (.string (tkB r.S n))
theorem sTk_ok : SpecOk Try.prog 79 sTk := by
  refine fn_ok X_ok mixed Ee_ok an0 lp0 Try.func79 (by kernel_rfl) (by kernel_rfl) (lp0_ok (by kernel_rfl)) fun objs args x hx hp => ?_
  obtain ⟨r, n⟩ := x
  obtain ⟨rfl, rfl⟩ := dTk_ok hx
  obtain ⟨h1, h2, h3⟩ := hp
  refine (e79 r n).trans ?_
  rw [if_pos trivial, decide_eq_true h1, Bool.not_true, cond_false, decide_eq_false (by omega), cond_false, decide_eq_false (by omega), cond_false]
  unfold cutB
  dsimp only
  rw [if_pos ⟨h2, h3⟩, Option.bind_some, if_pos ⟨h2, h3⟩, Option.bind_some, h1]
  rfl
noncomputable def Ex2 : FuncId → Option (Spc U)
  | 53 => some sNv
  | 54 => some sErr
  | 79 => some sTk
  | _ => none
theorem Ex2_ok : ∀ f S, Ex2 f = some S → SpecOk Try.prog f S := fun f S h => by
  unfold Ex2 at h
  split at h
  · cases h; exact sNv_ok
  · cases h; exact sErr_ok
  · cases h; exact sTk_ok
  · cases h
theorem e55 (r : Rd) (m : Int) : (evFn X Ex2 an0 lp0 Try.f55 [r.ob] [TV.ref 0 0 0, TV.v (Value.int IntKind.i64 m)]
  fun (o : List (TO X.U)) (v : TV X.U) => some (o, v)) =
  if PNv r (IntKind.u64.wrap (if 65536 < if m < 0 then 0 else m then 65536 else if m < 0 then 0 else m)) then
  if PTk { S := nrN r.S, E := 0 } (IntKind.i64.wrap (nvN r.S)) then
    some
      ([TO.cells [TV.v (Value.string (drB (nrN r.S) (IntKind.i64.wrap (nvN r.S)))), TV.v (Value.int IntKind.i64 0)]
            false],
        TV.v (Value.string (tkB (nrN r.S) (IntKind.i64.wrap (nvN r.S)))))
  else none
else none := by kernel_rfl
theorem e57 (r : Rd) : (evFn X Ex2 an0 lp0 Try.f57 [r.ob] [TV.ref 0 0 0] fun (o : List (TO X.U)) (v : TV X.U) =>
  some (o, v)) =
  if True then
  bif decide (r.E = 0) then
    bif decide (0 < (↑r.S.size : Int)) then none
    else if True then some ([r.ob], TV.v (Value.int IntKind.i64 r.E)) else none
  else if True then some ([r.ob], TV.v (Value.int IntKind.i64 r.E)) else none
else none := by kernel_rfl
end Go.Proofs.Ytmcflglkfgnbbaa.Nd

/- Bytes read: texts, what a key has. -/
namespace Go.Proofs.Ytmcflglkfgnbbaa.Nd
open Go Go.RowKit Go.Proofs.Ytmcflglkfgnbbaa.Eng
set_option linter.unusedVariables false
set_option linter.unusedSimpArgs false
set_option maxRecDepth 20000
theorem numB_nat (n : Nat) (h : n < 18446744073709551616) : tl8 (numB (IntKind.u64.wrap (n : Int))) = bL n := by
  rw [numB_bL, u64_id (by omega) (by omega), Int.toNat_natCast]
theorem tl8_textB (t : ByteArray) (h : t.size ≤ 65536) : tl8 (textB t) = bL t.size ++ tl8 t := by
  unfold textB
  rw [tl8_append, numB_nat _ (by omega)]
noncomputable def tvT (s : ByteArray) : ByteArray := tkB (nrN s) (IntKind.i64.wrap (nvN s))
noncomputable def trT (s : ByteArray) : ByteArray := drB (nrN s) (IntKind.i64.wrap (nvN s))
/-- Bytes that begin with a text of so many bytes at most. -/
def RT (s : ByteArray) (m : Int) : Prop := ∃ t r : ByteArray, tl8 s = tl8 (textB t) ++ tl8 r ∧ (t.size : Int) ≤ m ∧ m ≤ 65536
theorem tvT_of {s t r : ByteArray} (h : tl8 s = tl8 (textB t) ++ tl8 r) (ht : t.size ≤ 65536) : tvT s = t ∧ trT s = r ∧ nvN s = t.size ∧ tl8 (nrN s) = tl8 t ++ tl8 r := by
  rw [tl8_textB t ht, List.append_assoc, ← tl8_append] at h
  obtain ⟨h1, h2⟩ := nvN_of h
  have hw : IntKind.i64.wrap (t.size : Int) = t.size := wr (by omega) (by omega)
  refine ⟨?_, ?_, h1, by rw [h2, tl8_append]⟩
  · unfold tvT tkB
    rw [h1, h2, hw, Int.toNat_natCast]
    exact tl8_inj (by rw [tl8_take, tl8_append, ← tl8_len, List.take_left])
  · unfold trT drB
    rw [h1, h2, hw, Int.toNat_natCast]
    exact tl8_inj (by rw [tl8_drop, tl8_append, ← tl8_len t, List.drop_left])
def PTx (r : Rd) (m : Int) : Prop := r.E = 0 ∧ RT r.S m
noncomputable instance (r : Rd) (m : Int) : Decidable (PTx r m) := Classical.propDecidable _
noncomputable def sTx : Spc U := .of dTk (fun (r, m) => PTx r m) (fun (r, m) => [Rd.ob ⟨trT r.S, 0⟩]) fun (r, m) => .v (.string (tvT r.S))
theorem sTx_ok : SpecOk Try.prog 55 sTx := by
  refine fn_ok X_ok mixed Ex2_ok an0 lp0 Try.func55 (by kernel_rfl) (by kernel_rfl) (lp0_ok (by kernel_rfl)) fun objs args x hx hp => ?_
  obtain ⟨r, m⟩ := x
  obtain ⟨rfl, rfl⟩ := dTk_ok hx
  obtain ⟨h1, t, q, h2, h3, h4⟩ := hp
  refine (e55 r m).trans ?_
  obtain ⟨k1, k2, k3, k4⟩ := tvT_of h2 (by omega)
  have hm : (if (65536 : Int) < if m < 0 then 0 else m then 65536 else if m < 0 then 0 else m) = m := by
    rw [if_neg (by omega), if_neg (by omega)]
  have hw : IntKind.i64.wrap (t.size : Int) = t.size := wr (by omega) (by omega)
  have hs : (nrN r.S).size = t.size + q.size := by rw [← tl8_len, k4, List.length_append, tl8_len, tl8_len]
  rw [hm, u64_id (n := m) (by omega) (by omega), if_pos ⟨h1, t.size, t ++ q, by rw [h2, tl8_textB t (by omega), tl8_append, List.append_assoc], h3, by omega⟩, k3, hw, if_pos ⟨rfl, by show (0 : Int) ≤ _; omega, by show (t.size : Int) ≤ ((nrN r.S).size : Int); omega⟩]
  show some ([Rd.ob ⟨drB (nrN r.S) (t.size : Int), 0⟩], TV.v (.string (tkB (nrN r.S) (t.size : Int)))) = some ([Rd.ob ⟨trT r.S, 0⟩], TV.v (.string (tvT r.S)))
  unfold trT tvT
  rw [k3, hw]
def PEd (r : Rd) : Prop := r.E = 0 ∧ r.S.size = 0
instance (r : Rd) : Decidable (PEd r) := by unfold PEd; infer_instance
def sEd : Spc U := .of dRd (fun r => PEd r) (fun r => [r.ob]) fun r => .v (.int .i64 0)
theorem sEd_ok : SpecOk Try.prog 57 sEd := by
  refine fn_ok X_ok mixed Ex2_ok an0 lp0 Try.func57 (by kernel_rfl) (by kernel_rfl) (lp0_ok (by kernel_rfl)) fun objs args r hx hp => ?_
  obtain ⟨rfl, rfl⟩ := dRd_ok hx
  obtain ⟨h1, h2⟩ := hp
  refine (e57 r).trans ?_
  rw [if_pos trivial, decide_eq_true h1, cond_true, decide_eq_false (by omega), cond_false, if_pos trivial, h1]
noncomputable def Ex3 : FuncId → Option (Spc U)
  | 53 => some sNv
  | 55 => some sTx
  | _ => none
theorem Ex3_ok : ∀ f S, Ex3 f = some S → SpecOk Try.prog f S := fun f S h => by
  unfold Ex3 at h
  split at h
  · cases h; exact sNv_ok
  · cases h; exact sTx_ok
  · cases h
theorem e56 (r : Rd) : (evFn X Ex3 an0 lp0 Try.f56 [r.ob] [TV.ref 0 0 0] fun (o : List (TO X.U)) (v : TV X.U) =>
  some (o, v)) =
  if PNv r 1 then
  bif decide (nvN r.S = 0) then
    if PTx { S := nrN r.S, E := 0 } 48 then
      some
        ([TO.cells [TV.v (Value.string (trT (nrN r.S))), TV.v (Value.int IntKind.i64 0)] false],
          TV.agg
            [TV.v (Value.string (tvT (nrN r.S))), TV.v (Value.int IntKind.i64 (-1)), TV.v (Value.int IntKind.i64 0)])
    else none
  else
    if PNv { S := nrN r.S, E := 0 } 16383 then
      if PNv { S := nrN (nrN r.S), E := 0 } 65536 then
        bif decide (IntKind.i64.wrap (nvN (nrN (nrN r.S))) ≤ 48) then none
        else
          some
            ([TO.cells [TV.v (Value.string (nrN (nrN (nrN r.S)))), TV.v (Value.int IntKind.i64 0)] false],
              TV.agg
                [TV.v (Value.string (⟨#[]⟩ : ByteArray)), TV.v (Value.int IntKind.i64 (IntKind.i64.wrap (nvN (nrN r.S)))),
                  TV.v (Value.int IntKind.i64 (IntKind.i64.wrap (nvN (nrN (nrN r.S)))))])
      else none
    else none
else none := by kernel_rfl
def valB (v : R33) : ByteArray := cond (decide (0 ≤ v.Page)) (⟨#[1]⟩ ++ numB (IntKind.u64.wrap v.Page) ++ numB (IntKind.u64.wrap v.Len)) (⟨#[0]⟩ ++ textB v.Data)
theorem entB_valB (k : ByteArray) (v : R33) : tl8 (entB k v) = tl8 (textB k) ++ tl8 (valB v) := by
  unfold entB valB
  cases decide (0 ≤ v.Page) <;> simp only [cond_true, cond_false, tl8_append, List.append_assoc]
/-- What a key may have. -/
def Vok (v : R33) : Prop := (0 ≤ v.Page → v.Page ≤ 16383 ∧ 48 < v.Len ∧ v.Len ≤ 65536 ∧ v.Data = ⟨#[]⟩) ∧ (v.Page < 0 → v.Page = -1 ∧ v.Len = 0 ∧ v.Data.size ≤ 48)
noncomputable def vvR (s : ByteArray) : R33 := cond (decide (nvN s = 0)) ⟨tvT (nrN s), -1, 0⟩ ⟨⟨#[]⟩, IntKind.i64.wrap (nvN (nrN s)), IntKind.i64.wrap (nvN (nrN (nrN s)))⟩
noncomputable def vrR (s : ByteArray) : ByteArray := cond (decide (nvN s = 0)) (trT (nrN s)) (nrN (nrN (nrN s)))
def RV (s : ByteArray) : Prop := ∃ (v : R33) (q : ByteArray), Vok v ∧ tl8 s = tl8 (valB v) ++ tl8 q
theorem bL0 : bL 0 = [0] := by unfold bL; rfl
theorem bL1 : bL 1 = [1] := by unfold bL; rfl
theorem val_data {s q : ByteArray} {v : R33} (h : tl8 s = tl8 (valB v) ++ tl8 q) (hv : v.Page < 0) : tl8 s = bL 0 ++ tl8 (textB v.Data ++ q) := by
  rw [h, tl8_append, bL0]
  unfold valB
  rw [decide_eq_false (by omega), cond_false, tl8_append, List.append_assoc]
  rfl
theorem val_page {s q : ByteArray} {v : R33} (h : tl8 s = tl8 (valB v) ++ tl8 q) (hv : 0 ≤ v.Page) : tl8 s = bL 1 ++ tl8 (numB (IntKind.u64.wrap v.Page) ++ (numB (IntKind.u64.wrap v.Len) ++ q)) := by
  rw [h, tl8_append, tl8_append, bL1]
  unfold valB
  rw [decide_eq_true hv, cond_true, tl8_append, tl8_append, List.append_assoc, List.append_assoc]
  rfl
theorem numB_pos {n : Int} (h : 0 ≤ n) (h2 : n < 18446744073709551616) (r : ByteArray) : tl8 (numB (IntKind.u64.wrap n) ++ r) = bL n.toNat ++ tl8 r := by
  rw [tl8_append, numB_bL, u64_id h h2]
theorem vv_of {s q : ByteArray} {v : R33} (hv : Vok v) (h : tl8 s = tl8 (valB v) ++ tl8 q) : vvR s = v ∧ vrR s = q := by
  obtain ⟨D, P, L⟩ := v
  obtain ⟨h1, h2⟩ := hv
  dsimp only at h1 h2
  by_cases hp : 0 ≤ P
  · obtain ⟨g1, g2, g3, rfl⟩ := h1 hp
    obtain ⟨e1, e2⟩ := nvN_of (val_page h hp)
    obtain ⟨e3, e4⟩ := nvN_of (numB_pos (n := P) hp (by omega) (numB (IntKind.u64.wrap L) ++ q))
    obtain ⟨e5, e6⟩ := nvN_of (numB_pos (n := L) (by omega) (by omega) q)
    unfold vvR vrR
    rw [e1, e2]
    dsimp only at e3 e4 ⊢
    rw [e3, e4, e5, e6]
    rw [decide_eq_false (by decide), cond_false, cond_false, wr (a := ((P.toNat : Nat) : Int)) (by omega) (by omega), wr (a := ((L.toNat : Nat) : Int)) (by omega) (by omega), Int.toNat_of_nonneg hp, Int.toNat_of_nonneg (by omega)]
    exact ⟨rfl, rfl⟩
  · obtain ⟨rfl, rfl, g3⟩ := h2 (by omega)
    obtain ⟨e1, e2⟩ := nvN_of (val_data h (by show (-1 : Int) < 0; omega))
    obtain ⟨k1, k2, _, _⟩ := tvT_of (tl8_append (textB D) q) (by omega)
    unfold vvR vrR
    rw [e1, e2]
    dsimp only
    rw [k1, k2]
    exact ⟨rfl, rfl⟩
def PVv (r : Rd) : Prop := r.E = 0 ∧ RV r.S
noncomputable instance (r : Rd) : Decidable (PVv r) := Classical.propDecidable _
noncomputable def sVv : Spc U := .of dRd (fun r => PVv r) (fun r => [Rd.ob ⟨vrR r.S, 0⟩]) fun r => (vvR r.S).vV
theorem sVv_ok : SpecOk Try.prog 56 sVv := by
  refine fn_ok X_ok mixed Ex3_ok an0 lp0 Try.func56 (by kernel_rfl) (by kernel_rfl) (lp0_ok (by kernel_rfl)) fun objs args r hx hp => ?_
  obtain ⟨rfl, rfl⟩ := dRd_ok hx
  obtain ⟨h0, v, q, hv, h⟩ := hp
  obtain ⟨s, e⟩ := r
  obtain rfl : e = 0 := h0
  have h : tl8 s = tl8 (valB v) ++ tl8 q := h
  refine (e56 ⟨s, 0⟩).trans ?_
  dsimp only
  obtain ⟨D, P, L⟩ := v
  have hv' := hv
  obtain ⟨h1, h2⟩ := hv
  dsimp only at h1 h2
  by_cases hp : 0 ≤ P
  · obtain ⟨g1, g2, g3, rfl⟩ := h1 hp
    have w1 := val_page h hp
    have w2 := numB_pos (n := P) hp (by omega) (numB (IntKind.u64.wrap L) ++ q)
    have w3 := numB_pos (n := L) (by omega) (by omega) q
    obtain ⟨e1, e2⟩ := nvN_of w1
    obtain ⟨e3, e4⟩ := nvN_of w2
    obtain ⟨e5, e6⟩ := nvN_of w3
    dsimp only at e2 w2
    have c1 : PNv ⟨s, 0⟩ 1 := ⟨rfl, _, _, w1, by decide, by decide⟩
    have c2 : PNv ⟨nrN s, 0⟩ 16383 := ⟨rfl, _, _, by rw [e2]; exact w2, by omega, by omega⟩
    have c3 : PNv ⟨nrN (nrN s), 0⟩ 65536 := ⟨rfl, _, _, by rw [e2, e4]; exact w3, by omega, by omega⟩
    rw [if_pos c1, if_pos c2, if_pos c3]
    have hz : decide (nvN s = 0) = false := by rw [e1]; rfl
    have hL : decide (IntKind.i64.wrap (nvN (nrN (nrN s))) ≤ 48) = false := by rw [e2, e4, e5, wr (by omega) (by omega)]; exact decide_eq_false (by omega)
    unfold vvR vrR
    rw [hz, hL]
    rfl
  · obtain ⟨rfl, rfl, g3⟩ := h2 (by omega)
    have w1 := val_data h (by show (-1 : Int) < 0; omega)
    obtain ⟨e1, e2⟩ := nvN_of w1
    have c1 : PNv ⟨s, 0⟩ 1 := ⟨rfl, _, _, w1, by decide, by decide⟩
    have c2 : PTx ⟨nrN s, 0⟩ 48 := ⟨rfl, D, q, by rw [e2]; exact tl8_append _ _, by omega, by decide⟩
    rw [if_pos c1, if_pos c2]
    have hz : decide (nvN s = 0) = true := by rw [e1]; rfl
    unfold vvR vrR
    rw [hz]
    rfl
end Go.Proofs.Ytmcflglkfgnbbaa.Nd

/- Sets as bytes: eight bytes are read again. -/
namespace Go.Proofs.Ytmcflglkfgnbbaa.Bt
open Go Go.RowKit Go.Proofs.Ytmcflglkfgnbbaa.Eng Go.Proofs.Ytmcflglkfgnbbaa.Nd
set_option linter.unusedVariables false
set_option linter.unusedSimpArgs false
set_option maxRecDepth 20000
def E63 : FuncId → Option (Spc U)
  | 79 => some sTk
  | _ => none
theorem E63_ok : ∀ f S, E63 f = some S → SpecOk Try.prog f S := fun f S h => by
  unfold E63 at h
  split at h
  · cases h; exact sTk_ok
  · cases h
def an63 : Ann := ⟨fun | 0 => 224 | _ => 0, fun | 0 => 80 | _ => 0, fun _ => [], false⟩
def S63 (t q : ByteArray) (v i : Int) : TS U := mkS 28 [(5, .v (.string t)), (6, .v (.int .u64 v)), (7, .v (.int .i64 i))] [Rd.ob ⟨q, 0⟩] 1
def Z63 (q : ByteArray) (v : Int) : TS U := mkS 28 [(6, .v (.int .u64 v))] [Rd.ob ⟨q, 0⟩] 1
theorem r63 (lp : Lp
  U) (N : Nat) (t : ByteArray) (q : ByteArray) (v : Int) (i : Int) : (fnLoop X E63 an63 lp Try.f63 0 N.succ
  (S63 t q v i)) =
  bif decide (0 ≤ i) then
  (getB t i).bind fun (n : Int) =>
    fnLoop X E63 an63 lp Try.f63 0 N
      (mkS 28
        [(5, TV.v (Value.string t)),
          (6,
            TV.v
              (Value.int IntKind.u64
                (IntKind.u64.wrap
                  (↑(BitVec.ofInt IntKind.u64.bits (IntKind.u64.wrap (v * 2 ^ min (Int.toNat 8) IntKind.u64.bits)) |||
                          BitVec.ofInt IntKind.u64.bits (IntKind.u64.wrap n)).toNat :
                    Int)))),
          (7, TV.v (Value.int IntKind.i64 (IntKind.i64.wrap (i - 1))))]
        [TO.cells [TV.v (Value.string q), TV.v (Value.int IntKind.i64 0)] false] 1)
else
  some
    (Exit.exit 0,
      mkS 28 [(6, TV.v (Value.int IntKind.u64 v))]
        [TO.cells [TV.v (Value.string q), TV.v (Value.int IntKind.i64 0)] false] 1) := by kernel_rfl
def accF (v n : Int) : Int := IntKind.u64.wrap (↑(BitVec.ofInt IntKind.u64.bits (IntKind.u64.wrap (v * 2 ^ min (Int.toNat 8) IntKind.u64.bits)) ||| BitVec.ofInt IntKind.u64.bits (IntKind.u64.wrap n)).toNat : Int)
theorem accF_nat {v n : Nat} (hv : v * 256 + n < 18446744073709551616) (hn : n < 256) : accF (v : Int) (n : Int) = ((v * 256 + n : Nat) : Int) := by
  have e1 : (2 ^ min (Int.toNat 8) IntKind.u64.bits : Int) = 256 := by decide
  have e2 : IntKind.u64.wrap ((v : Int) * 256) = ((v * 256 : Nat) : Int) := by
    have : (v : Int) * 256 = ((v * 256 : Nat) : Int) := by omega
    rw [this]
    exact emod_small _ (by omega)
  have e3 : IntKind.u64.wrap (n : Int) = (n : Int) := emod_small _ (by omega)
  have e4 : ∀ x : Nat, x < 18446744073709551616 → (BitVec.ofInt IntKind.u64.bits (x : Int)).toNat = x := fun x hx => by
    rw [BitVec.toNat_ofInt]
    show ((x : Int) % (2 ^ 64)).toNat = _
    rw [emod_small x hx]
    rfl
  unfold accF
  rw [e1, e2, e3, BitVec.toNat_or, e4 _ (by omega), e4 n (by omega)]
  have : v * 256 ||| n = v * 256 + n := by
    have := Nat.two_pow_add_eq_or_of_lt (i := 8) (b := n) (by omega) v
    rw [show 2 ^ 8 * v = v * 256 by omega] at this
    exact this.symm
  rw [this]
  exact emod_small _ hv
theorem by8_get : ∀ (k j x : Nat), j < k → (by8 k x)[j]? = some (UInt8.ofNat (x / 256 ^ j % 256))
  | 0, j, x, h => by omega
  | k + 1, 0, x, h => by unfold by8; simp
  | k + 1, j + 1, x, h => by
    unfold by8
    rw [List.getElem?_cons_succ, by8_get k j (x / 256) (by omega), Nat.div_div_eq_div_mul, Nat.pow_succ, Nat.mul_comm 256]
theorem getB_by8 {t : ByteArray} {x j : Nat} (h : tl8 t = by8 8 x) (hj : j < 8) : getB t (j : Int) = some ((x / 256 ^ j % 256 : Nat) : Int) := by
  have hg := by8_get 8 j x hj
  rw [← h] at hg
  have hlt := (List.getElem?_eq_some_iff.1 hg).1
  have hs : tl8 t = (tl8 t).take j ++ UInt8.ofNat (x / 256 ^ j % 256) :: (tl8 t).drop (j + 1) := by
    have e := List.drop_eq_getElem_cons hlt
    rw [(List.getElem?_eq_some_iff.1 hg).2] at e
    rw [← e, List.take_append_drop]
  have := getB_at hs
  rw [List.length_take, Nat.min_eq_left (by omega), UInt8.toNat_ofNat'] at this
  rw [this]
  congr 2
  exact Nat.mod_eq_of_lt (Nat.mod_lt _ (by decide))
theorem rounds63 (lp : Lp U) {t q : ByteArray} {x : Nat} (h : tl8 t = by8 8 x) (hx : x < 18446744073709551616) : ∀ k : Nat, k ≤ 8 → fnLoop X E63 an63 lp Try.f63 0 (k + 1) (S63 t q ((x / 256 ^ k : Nat) : Int) ((k : Int) - 1)) = some (.exit 0, Z63 q x) := by
  intro k
  induction k with
  | zero =>
    intro _
    rw [r63, decide_eq_false (by omega), Nat.pow_zero, Nat.div_one]
    rfl
  | succ k ih =>
    intro hk
    have hd : x / 256 ^ (k + 1) = x / 256 ^ k / 256 := by rw [Nat.pow_succ, Nat.div_div_eq_div_mul]
    have hle : x / 256 ^ k ≤ x := Nat.div_le_self _ _
    have e1 : ((k + 1 : Nat) : Int) - 1 = (k : Int) := by omega
    have e2 : accF ((x / 256 ^ (k + 1) : Nat) : Int) ((x / 256 ^ k % 256 : Nat) : Int) = ((x / 256 ^ k : Nat) : Int) := by
      rw [hd, accF_nat (by omega) (by omega)]
      congr 1
      omega
    rw [e1, r63, decide_eq_true (by omega), cond_true, getB_by8 h (by omega), Option.bind_some]
    show fnLoop X E63 an63 lp Try.f63 0 (k + 1) (S63 t q (accF _ _) _) = _
    rw [e2, wr (a := (k : Int) - 1) (by omega) (by omega)]
    exact ih (by omega)
theorem by8_mod : ∀ (k x y : Nat), by8 k x = by8 k y → x % 256 ^ k = y % 256 ^ k
  | 0, x, y, _ => by simp [Nat.mod_one]
  | k + 1, x, y, h => by
    unfold by8 at h
    obtain ⟨h1, h2⟩ := List.cons.inj h
    have h3 := ofNat_inj (Nat.mod_lt _ (by decide)) (Nat.mod_lt _ (by decide)) h1
    have h4 := by8_mod k _ _ h2
    rw [Nat.pow_succ, Nat.mul_comm, Nat.mod_mul, Nat.mod_mul, h3, h4]
/-- Eight bytes of a number, and what stands behind them. -/
def RF (s : ByteArray) : Prop := ∃ (x : Nat) (q : ByteArray), tl8 s = by8 8 x ++ tl8 q ∧ x < 18446744073709551616
open Classical in
noncomputable def fxV (s : ByteArray) : Int := if h : RF s then (h.choose : Int) else 0
open Classical in
noncomputable def fxQ (s : ByteArray) : ByteArray := if h : RF s then h.choose_spec.choose else .empty
theorem fx_of {s q : ByteArray} {x : Nat} (h : tl8 s = by8 8 x ++ tl8 q) (hx : x < 18446744073709551616) : fxV s = x ∧ fxQ s = q := by
  have hr : RF s := ⟨x, q, h, hx⟩
  have hs := hr.choose_spec.choose_spec
  obtain ⟨h1, h2⟩ := hs
  obtain ⟨e1, e2⟩ := List.append_inj (h.symm.trans h1) (by rw [by8_len, by8_len])
  have e3 := by8_mod 8 _ _ e1
  have e256 : (256 : Nat) ^ 8 = 18446744073709551616 := by decide
  rw [e256, Nat.mod_eq_of_lt hx, Nat.mod_eq_of_lt h2] at e3
  unfold fxV fxQ
  rw [dif_pos hr, dif_pos hr]
  exact ⟨by rw [← e3], (tl8_inj e2).symm⟩
def PFx (r : Rd) (n : Int) : Prop := r.E = 0 ∧ n = 8 ∧ RF r.S
noncomputable instance (r : Rd) (n : Int) : Decidable (PFx r n) := Classical.propDecidable _
def dl63 (s : TS U) : Option (Rd × ByteArray × Int × Int) := match told s 28 [5, 6, 7] 1, s.objs with
  | some [a0, a1, a2], [o0] =>
    match o0 with
    | .cells [q0, q1] false =>
      match q0 with
      | .v (.string r_S) =>
        match q1 with
        | .v (.int .i64 r_E) =>
          match a0 with
          | .v (.string t) =>
            match a1 with
            | .v (.int .u64 v) =>
              match a2 with
              | .v (.int .i64 i) =>
                some ((⟨r_S, r_E⟩ : Rd), t, v, i)
              | _ => none
            | _ => none
          | _ => none
        | _ => none
      | _ => none
    | _ => none
  | _, _ => none
theorem dl63_ok {s : TS U} {r : Rd} {t : ByteArray} {v : Int} {i : Int} (h : dl63 s = some (r, t, v, i)) : s = mkS (U := U) 28 ([5, 6, 7].zip ([.v (.string t), .v (.int .u64 v), .v (.int .i64 i)] : List (TV U))) ([r.ob] : List (TO U)) 1 := by
  unfold dl63 at h
  split at h <;> try (cases h; done)
  rename_i ht ho
  have hs := told_ok ht
  rw [ho] at hs
  repeat' split at h
  all_goals first | (cases h; done) | (cases h; exact hs)
def P63 (r : Rd) (t : ByteArray) (v i : Int) : Prop := r.E = 0 ∧ (∃ x : Nat, tl8 t = by8 8 x ∧ x < 18446744073709551616) ∧ v = 0 ∧ i = 7
noncomputable instance (r : Rd) (t : ByteArray) (v i : Int) : Decidable (P63 r t v i) := Classical.propDecidable _
noncomputable def lc63 : LC U := .of dl63 (fun (r, t, v, i) => P63 r t v i) (.exit 0) fun (r, t, v, i) => Z63 r.S (fxV t)
noncomputable def lp63 : Lp U := lpL [(0, lc63)]
theorem lp63_ok : ∀ c, Try.f63.body = some c → LpOk X E63 an63 lp63 (loops c 0) := lpL_ok (by kernel_rfl) fun b L hm st p hs => by
  cases hm with
  | head =>
    obtain ⟨⟨r, t, v, i⟩, hx, ⟨h1, ⟨x, h2, h3⟩, rfl, rfl⟩, rfl⟩ := LC.of_some hs
    obtain rfl := dl63_ok hx
    obtain ⟨q, e⟩ := r
    obtain rfl : e = 0 := h1
    have hq : fxV t = x := (fx_of (q := .empty) (by rw [h2]; show _ = _ ++ []; rw [List.append_nil]) h3).1
    dsimp only
    rw [hq]
    have := rounds63 (lpL [(0, lc63)]) (q := q) h2 h3 8 (Nat.le_refl 8)
    have h0 : x / 256 ^ 8 = 0 := Nat.div_eq_of_lt (by have : (256 : Nat) ^ 8 = 18446744073709551616 := by decide
                                                      omega)
    rw [h0] at this
    exact ⟨_, this⟩
  | tail _ hm => cases hm
theorem e63 (r : Rd) : (evFn X E63 an63 lp63 Try.f63 [r.ob] [TV.ref 0 0 0, TV.v (Value.int IntKind.i64 8)]
  fun (o : List (TO X.U)) (v : TV X.U) => some (o, v)) =
  if PTk r 8 then
  if P63 { S := drB r.S 8, E := 0 } (tkB r.S 8) 0 (IntKind.i64.wrap ((↑(tkB r.S 8).size : Int) - 1)) then
    some
      ([TO.cells [TV.v (Value.string (drB r.S 8)), TV.v (Value.int IntKind.i64 0)] false],
        TV.v (Value.int IntKind.u64 (fxV (tkB r.S 8))))
  else none
else none := by kernel_rfl
noncomputable def sFxv : Spc U := .of dTk (fun (r, n) => PFx r n) (fun (r, n) => [Rd.ob ⟨fxQ r.S, 0⟩]) fun (r, n) => .v (.int .u64 (fxV r.S))
theorem sFxv_ok : SpecOk Try.prog 63 sFxv := by
  refine fn_ok X_ok mixed E63_ok an63 lp63 Try.func63 (by kernel_rfl) (by kernel_rfl) lp63_ok fun objs args x hx hp => ?_
  obtain ⟨r, n⟩ := x
  obtain ⟨rfl, rfl⟩ := dTk_ok hx
  obtain ⟨h1, rfl, x, q, h2, h3⟩ := hp
  obtain ⟨S, e⟩ := r
  obtain rfl : e = 0 := h1
  have h2 : tl8 S = by8 8 x ++ tl8 q := h2
  have hlen : S.size = 8 + q.size := by rw [← tl8_len, h2, List.length_append, by8_len, tl8_len]
  have ht : tl8 (tkB S 8) = by8 8 x := by
    unfold tkB
    rw [tl8_take, h2]
    exact List.take_left' (by8_len 8 x)
  have hd : drB S 8 = q := tl8_inj (by
    unfold drB
    rw [tl8_drop, h2]
    exact List.drop_left' (by8_len 8 x))
  have hsz : (tkB S 8).size = 8 := by rw [← tl8_len, ht, by8_len]
  obtain ⟨f1, f2⟩ := fx_of h2 h3
  have f3 : fxV (tkB S 8) = x := (fx_of (q := .empty) (by rw [ht]; show _ = _ ++ []; rw [List.append_nil]) h3).1
  refine (e63 ⟨S, 0⟩).trans ?_
  rw [if_pos (show PTk ⟨S, 0⟩ 8 from ⟨rfl, by decide, by show (8 : Int) ≤ (S.size : Int); omega⟩), hsz, wr (a := ((8 : Nat) : Int) - 1) (by omega) (by omega), if_pos (show P63 ⟨drB S 8, 0⟩ (tkB S 8) 0 (((8 : Nat) : Int) - 1) from ⟨rfl, ⟨x, ht, h3⟩, rfl, rfl⟩)]
  dsimp only
  rw [f3, hd, f1, f2]
  rfl
end Go.Proofs.Ytmcflglkfgnbbaa.Bt

