/- Texts of this claim, put together: part 12. -/
import Derived.Test.YtmcflglkfgnbbaaMtJ
import Derived.Test.YtmcflglkfgnbbaaMtK
/- Contracts for the law of parts: each shape by itself. -/
namespace Go.Proofs.Ytmcflglkfgnbbaa.Nd
open Go Go.RowKit Go.Proofs.Ytmcflglkfgnbbaa.Eng
set_option linter.unusedVariables false
set_option linter.unusedSimpArgs false
set_option maxRecDepth 20000
set_option pp.fieldNotation false
/-! ### A leaf, or an inner node, that is known ahead -/
def PeL (ks : List ByteArray) (vs : List R33) (x : List R24 × Bool) : Prop := x.2 = true ∧ (lfP x.1).1 = ks ∧ (lfP x.1).2 = vs ∧ 0 < ks.length
noncomputable instance (ks : List ByteArray) (vs : List R33) : DecidablePred (PeL ks vs) := fun _ => Classical.propDecidable _
def PeI (ks : List ByteArray) (ki : List Int) (x : List R24 × Bool) : Prop := x.2 = false ∧ (lfP x.1).1 = ks ∧ inI x.1 (lfP x.1).1.length = ki ∧ 0 < ks.length
noncomputable instance (ks : List ByteArray) (ki : List Int) : DecidablePred (PeI ks ki) := fun _ => Classical.propDecidable _
def PeE (b : Bool) (x : List R24 × Bool) : Prop := x.2 = b ∧ (lfP x.1).1 = []
noncomputable instance (b : Bool) : DecidablePred (PeE b) := fun _ => Classical.propDecidable _
noncomputable def sEiL (ks : List ByteArray) (vs : List R33) : Spc U := .of d18 (PeL ks vs) (fun _ => []) fun _ => .agg [.v (.bool true), .lst .str (cS ks), .lst .t33 (cV vs), nlv]
noncomputable def sEiI (ks : List ByteArray) (ki : List Int) : Spc U := .of d18 (PeI ks ki) (fun _ => []) fun _ => .agg [.v (.bool false), .lst .str (cS ks), nlv, .lst .i64 (cI ki)]
noncomputable def sEiE1 : Spc U := .of d18 (PeE true) (fun _ => []) fun _ => .agg [.v (.bool true), nlv, nlv, nlv]
noncomputable def sEiE2 : Spc U := .of d18 (PeE false) (fun _ => []) fun _ => .agg [.v (.bool false), nlv, nlv, .lst .i64 [5]]
theorem emp_of {l : List ByteArray} (h : 0 < l.length) : l.isEmpty = false := by cases l with
  | nil => simp at h
  | cons => rfl
theorem sEiL_ok (ks : List ByteArray) (vs : List R33) : SpecOk Try.prog 18 (sEiL ks vs) := by
  refine fn_ok X_ok mixed Eei_ok an0 lp0 Try.func18 (by kernel_rfl) (by kernel_rfl) (lp0_ok (by kernel_rfl)) fun objs args x hx hp => ?_
  obtain ⟨l, b⟩ := x
  obtain ⟨rfl, rfl⟩ := d18_ok hx
  obtain ⟨hb, rfl, rfl, hpos⟩ := hp
  obtain rfl : b = true := hb
  refine (e18t l).trans ?_
  dsimp only at hpos
  rw [if_pos trivial, emp_of hpos]
  rfl
theorem sEiI_ok (ks : List ByteArray) (ki : List Int) : SpecOk Try.prog 18 (sEiI ks ki) := by
  refine fn_ok X_ok mixed Eei_ok an0 lp0 Try.func18 (by kernel_rfl) (by kernel_rfl) (lp0_ok (by kernel_rfl)) fun objs args x hx hp => ?_
  obtain ⟨l, b⟩ := x
  obtain ⟨rfl, rfl⟩ := d18_ok hx
  obtain ⟨hb, rfl, rfl, hpos⟩ := hp
  obtain rfl : b = false := hb
  refine (e18f l).trans ?_
  dsimp only at hpos
  rw [if_pos trivial, emp_of hpos]
  rfl
theorem sEiE1_ok : SpecOk Try.prog 18 sEiE1 := by
  refine fn_ok X_ok mixed Eei_ok an0 lp0 Try.func18 (by kernel_rfl) (by kernel_rfl) (lp0_ok (by kernel_rfl)) fun objs args x hx hp => ?_
  obtain ⟨l, b⟩ := x
  obtain ⟨rfl, rfl⟩ := d18_ok hx
  obtain ⟨hb, hl⟩ := hp
  obtain rfl : b = true := hb
  refine (e18t l).trans ?_
  dsimp only at hl
  rw [if_pos trivial, hl]
  rfl
theorem sEiE2_ok : SpecOk Try.prog 18 sEiE2 := by
  refine fn_ok X_ok mixed Eei_ok an0 lp0 Try.func18 (by kernel_rfl) (by kernel_rfl) (lp0_ok (by kernel_rfl)) fun objs args x hx hp => ?_
  obtain ⟨l, b⟩ := x
  obtain ⟨rfl, rfl⟩ := d18_ok hx
  obtain ⟨hb, hl⟩ := hp
  obtain rfl : b = false := hb
  refine (e18f l).trans ?_
  dsimp only at hl
  rw [if_pos trivial, hl]
  rfl
/-! ### Where the document parts: not, or here -/
def PatN (n : N4) : Prop := n.n3.Sm ∧ n.n3.put.size ≤ 237
noncomputable instance (n : N4) : Decidable (PatN n) := Classical.propDecidable _
def PatY (n : N4) : Prop := n.n3.Sm ∧ 237 < n.n3.put.size
noncomputable instance (n : N4) : Decidable (PatY n) := Classical.propDecidable _
noncomputable def sAtN : Spc U := .of dNat (fun n => PatN n) (fun _ => []) fun n => .v (.int .i64 (-1))
noncomputable def sAtY : Spc U := .of dNat (fun n => PatY n) (fun _ => []) fun n => .v (.int .i64 n.n3.pt)
theorem sAtN_ok : SpecOk Try.prog 22 sAtN := by
  refine fn_ok X_ok mixed E22_ok an22 lp22 Try.func22 (by kernel_rfl) (by kernel_rfl) lp22_ok fun objs args n hx hp => ?_
  obtain ⟨rfl, rfl⟩ := dNat_ok hx
  obtain ⟨hp, hs⟩ := hp
  refine (e22 n).trans ?_
  rw [if_pos hp.1, if_pos (show P22 n (-1) 0 1 from ⟨hp, rfl, rfl, rfl⟩), decide_eq_true (by omega)]
  rfl
theorem sAtY_ok : SpecOk Try.prog 22 sAtY := by
  refine fn_ok X_ok mixed E22_ok an22 lp22 Try.func22 (by kernel_rfl) (by kernel_rfl) lp22_ok fun objs args n hx hp => ?_
  obtain ⟨rfl, rfl⟩ := dNat_ok hx
  obtain ⟨hp, hs⟩ := hp
  refine (e22 n).trans ?_
  rw [if_pos hp.1, if_pos (show P22 n (-1) 0 1 from ⟨hp, rfl, rfl, rfl⟩), decide_eq_false (by omega)]
  rfl
/-! ### Parted, or not -/
abbrev nL (ks : List ByteArray) (vs : List R33) : N3 := ⟨true, ks, vs, []⟩
abbrev nI (ks : List ByteArray) (ki : List Int) : N3 := ⟨false, ks, [], ki⟩
def one29 (n : R29) : TV U := .tup [.lst .t29 [n], .v (.string ⟨#[]⟩)]
def two29 (n m : R29) (z : ByteArray) : TV U := .tup [.lst .t29 [n, m], .v (.string z)]
def PnoL (ks : List ByteArray) (vs : List R33) : Prop := (nL ks vs).Sm ∧ (nL ks vs).put.size ≤ 237 ∧ 0 < ks.length
noncomputable instance (ks : List ByteArray) (vs : List R33) : Decidable (PnoL ks vs) := Classical.propDecidable _
def PyeL (ks : List ByteArray) (vs : List R33) (a : Nat) : Prop := (nL ks vs).Sm ∧ 237 < (nL ks vs).put.size ∧ (nL ks vs).pt = a ∧ 1 ≤ a ∧ a + 1 ≤ ks.length
noncomputable instance (ks : List ByteArray) (vs : List R33) (a : Nat) : Decidable (PyeL ks vs a) := Classical.propDecidable _
def PnoI (ks : List ByteArray) (ki : List Int) : Prop := (nI ks ki).Sm ∧ (nI ks ki).put.size ≤ 237 ∧ 0 < ks.length
noncomputable instance (ks : List ByteArray) (ki : List Int) : Decidable (PnoI ks ki) := Classical.propDecidable _
def PyeI (ks : List ByteArray) (ki : List Int) (a : Nat) : Prop := (nI ks ki).Sm ∧ 237 < (nI ks ki).put.size ∧ (nI ks ki).pt = a ∧ 1 ≤ a ∧ a + 2 ≤ ks.length
noncomputable instance (ks : List ByteArray) (ki : List Int) (a : Nat) : Decidable (PyeI ks ki a) := Classical.propDecidable _
def PnoE (b : Bool) (ki : List Int) : Prop := (N3.mk b [] [] ki).Sm ∧ (N3.mk b [] [] ki).put.size ≤ 237
noncomputable instance (b : Bool) (ki : List Int) : Decidable (PnoE b ki) := Classical.propDecidable _
def dE1 (objs : List (TO U)) (args : List (TV U)) : Option (Bool × List Int) := match objs, args with
  | [], [a0] =>
    match a0 with
    | .agg [q0, q1, q2, q3] =>
      match q0 with
      | .v (.bool b) =>
        match q1 with
        | .v (.slice none 0 0) =>
          match q2 with
          | .v (.slice none 0 0) =>
            match q3 with
            | .lst .i64 ki =>
              some (b, ki)
            | _ => none
          | _ => none
        | _ => none
      | _ => none
    | _ => none
  | _, _ => none
theorem dE1_ok {objs : List (TO U)} {args : List (TV U)} {b : Bool} {ki : List Int} (h : dE1 objs args = some (b, ki)) : objs = [] ∧ args = [.agg [.v (.bool b), .v (.slice none 0 0), .v (.slice none 0 0), .lst .i64 ki]] := by
  unfold dE1 at h
  repeat' split at h
  all_goals first | (cases h; done) | (cases h; exact ⟨rfl, rfl⟩)
def dE2 (objs : List (TO U)) (args : List (TV U)) : Option (Bool) := match objs, args with
  | [], [a0] =>
    match a0 with
    | .agg [q0, q1, q2, q3] =>
      match q0 with
      | .v (.bool b) =>
        match q1 with
        | .v (.slice none 0 0) =>
          match q2 with
          | .v (.slice none 0 0) =>
            match q3 with
            | .v (.slice none 0 0) =>
              some b
            | _ => none
          | _ => none
        | _ => none
      | _ => none
    | _ => none
  | _, _ => none
theorem dE2_ok {objs : List (TO U)} {args : List (TV U)} {b : Bool} (h : dE2 objs args = some b) : objs = [] ∧ args = [.agg [.v (.bool b), .v (.slice none 0 0), .v (.slice none 0 0), .v (.slice none 0 0)]] := by
  unfold dE2 at h
  repeat' split at h
  all_goals first | (cases h; done) | (cases h; exact ⟨rfl, rfl⟩)
noncomputable def sParE1 : Spc U := .of dE1 (fun (b, ki) => PnoE b ki ∧ 0 < ki.length) (fun _ => []) fun (b, ki) => one29 ⟨b, [], [], cI ki⟩
noncomputable def sParE2 : Spc U := .of dE2 (fun b => PnoE b []) (fun _ => []) fun b => one29 ⟨b, [], [], []⟩
noncomputable def sParL1 : Spc U := .of dCl (fun (b, ks, vs) => b = true ∧ PnoL ks vs) (fun _ => []) fun (b, ks, vs) => one29 ⟨true, cS ks, cV vs, []⟩
noncomputable def sParI1 : Spc U := .of dCi (fun (b, ks, ki) => b = false ∧ PnoI ks ki) (fun _ => []) fun (b, ks, ki) => one29 ⟨false, cS ks, [], cI ki⟩
noncomputable def sParL2 (a : Nat) : Spc U := .of dCl (fun (b, ks, vs) => b = true ∧ PyeL ks vs a) (fun _ => []) fun (b, ks, vs) => two29 ⟨true, cS (ks.take a), cV (vs.take a), []⟩ ⟨true, cS (ks.drop a), cV (vs.drop a), []⟩ ((getI ks a).getD ⟨#[]⟩)
noncomputable def sParI2 (a : Nat) : Spc U := .of dCi (fun (b, ks, ki) => b = false ∧ PyeI ks ki a) (fun _ => []) fun (b, ks, ki) => two29 ⟨false, cS (ks.take a), [], cI (ki.take (a + 1))⟩ ⟨false, cS (ks.drop (a + 1)), [], cI (ki.drop (a + 1))⟩ ((getI ks a).getD ⟨#[]⟩)
theorem lenL {ks : List ByteArray} {vs : List R33} (h : (nL ks vs).Ok) : vs.length = ks.length := h.2.2.2.1 rfl
theorem lenI {ks : List ByteArray} {ki : List Int} (h : (nI ks ki).Ok) : ki.length = ks.length + 1 := h.2.2.2.2 rfl
theorem sParE1_ok : SpecOk Try.prog 20 sParE1 := by
  refine fn_ok X_ok mixed (E20_ok sCopL_ok) an0 lp0 Try.func20 (by kernel_rfl) (by kernel_rfl) (lp0_ok (by kernel_rfl)) fun objs args x hx hp => ?_
  obtain ⟨b, ki⟩ := x
  obtain ⟨rfl, rfl⟩ := dE1_ok hx
  obtain ⟨⟨h, hs⟩, h0⟩ := hp
  have h0 : 0 < ki.length := h0
  have e := e20n b ki
  rw [cI_eq h0] at e
  refine e.trans ?_
  rw [if_pos h.1, decide_eq_true (by omega), cond_true]
  rfl
theorem sParE2_ok : SpecOk Try.prog 20 sParE2 := by
  refine fn_ok X_ok mixed (E20_ok sCopL_ok) an0 lp0 Try.func20 (by kernel_rfl) (by kernel_rfl) (lp0_ok (by kernel_rfl)) fun objs args b hx hp => ?_
  obtain ⟨rfl, rfl⟩ := dE2_ok hx
  obtain ⟨h, hs⟩ := hp
  refine (e20m b).trans ?_
  rw [if_pos h.1, decide_eq_true (by omega), cond_true]
  rfl
theorem sParL1_ok : SpecOk Try.prog 20 sParL1 := by
  refine fn_ok X_ok mixed (E20_ok sCopL_ok) an0 lp0 Try.func20 (by kernel_rfl) (by kernel_rfl) (lp0_ok (by kernel_rfl)) fun objs args x hx hp => ?_
  obtain ⟨b, ks, vs⟩ := x
  obtain ⟨rfl, rfl⟩ := dCl_ok hx
  obtain ⟨hb, h, hs, h0⟩ := hp
  obtain rfl : b = true := hb
  have hl := lenL h.1
  have e := e20l ks vs
  rw [cS_eq h0, cV_eq (by omega)] at e
  refine e.trans ?_
  have hs : (N3.put ⟨true, ks, vs, []⟩).size ≤ 237 := hs
  rw [if_pos h.1, decide_eq_true (by omega), cond_true]
  rfl
theorem sParI1_ok : SpecOk Try.prog 20 sParI1 := by
  refine fn_ok X_ok mixed (E20_ok sCopI_ok) an0 lp0 Try.func20 (by kernel_rfl) (by kernel_rfl) (lp0_ok (by kernel_rfl)) fun objs args x hx hp => ?_
  obtain ⟨b, ks, ki⟩ := x
  obtain ⟨rfl, rfl⟩ := dCi_ok hx
  obtain ⟨hb, h, hs, h0⟩ := hp
  obtain rfl : b = false := hb
  have hl := lenI h.1
  have e := e20i ks ki
  rw [cS_eq h0, cI_eq (by omega)] at e
  refine e.trans ?_
  have hs : (N3.put ⟨false, ks, [], ki⟩).size ≤ 237 := hs
  rw [if_pos h.1, decide_eq_true (by omega), cond_true]
  rfl
theorem cut_t {α : Type} {l : List α} {a : Nat} (h : a ≤ l.length) : cutI l none (some (a : Int)) = some (l.take a) := by
  show (if 0 ≤ (a : Int) ∧ (a : Int) ≤ (l.length : Int) then some (l.take (a : Int).toNat) else none) = _
  rw [if_pos ⟨by omega, by omega⟩, Int.toNat_natCast]
theorem cut_d {α : Type} {l : List α} {a : Nat} (h : a ≤ l.length) : cutI l (some (a : Int)) none = some (l.drop a) := by
  show (if 0 ≤ (a : Int) ∧ (a : Int) ≤ (l.length : Int) then some (l.drop (a : Int).toNat) else none) = _
  rw [if_pos ⟨by omega, by omega⟩, Int.toNat_natCast]
theorem sParL2_ok (a : Nat) : SpecOk Try.prog 20 (sParL2 a) := by
  refine fn_ok X_ok mixed (E20_ok sCopL_ok) an0 lp0 Try.func20 (by kernel_rfl) (by kernel_rfl) (lp0_ok (by kernel_rfl)) fun objs args x hx hp => ?_
  obtain ⟨b, ks, vs⟩ := x
  obtain ⟨rfl, rfl⟩ := dCl_ok hx
  obtain ⟨hb, h, hs, hpt, h1, h2⟩ := hp
  obtain rfl : b = true := hb
  have hl := lenL h.1
  have hlen := h.1.len
  have hlen : ks.length ≤ 1000000 := hlen
  have e := e20l ks vs
  rw [cS_eq (l := ks) (by omega), cV_eq (l := vs) (by omega)] at e
  refine e.trans ?_
  have hs : 237 < (N3.put ⟨true, ks, vs, []⟩).size := hs
  have ha : atM (N3.szs ⟨true, ks, vs, []⟩) 0 = a := hpt
  obtain ⟨z, hz, _⟩ := getE (l := ks) (v := (a : Int)) (by omega) (by omega)
  rw [if_pos h.1, decide_eq_false (by omega), cond_false, if_pos h.1, if_pos h.szs.1, ha, cut_t (l := ks) (by omega), cut_t (l := vs) (by omega), cut_d (l := ks) (by omega), cut_d (l := vs) (by omega), hz]
  simp only [Option.bind_some]
  rw [if_pos (show Sp2 (ks.take a).length (vs.take a).length by unfold Sp2 Sp; rw [List.length_take, List.length_take]; omega), if_pos (show Sp2 (ks.drop a).length (vs.drop a).length by unfold Sp2 Sp; rw [List.length_drop, List.length_drop]; omega)]
  show _ = some ([], two29 _ _ ((getI ks a).getD ⟨#[]⟩))
  rw [hz]
  rfl
theorem sParI2_ok (a : Nat) : SpecOk Try.prog 20 (sParI2 a) := by
  refine fn_ok X_ok mixed (E20_ok sCopI_ok) an0 lp0 Try.func20 (by kernel_rfl) (by kernel_rfl) (lp0_ok (by kernel_rfl)) fun objs args x hx hp => ?_
  obtain ⟨b, ks, ki⟩ := x
  obtain ⟨rfl, rfl⟩ := dCi_ok hx
  obtain ⟨hb, h, hs, hpt, h1, h2⟩ := hp
  obtain rfl : b = false := hb
  have hl := lenI h.1
  have hlen := h.1.len
  have hlen : ks.length ≤ 1000000 := hlen
  have e := e20i ks ki
  rw [cS_eq (l := ks) (by omega), cI_eq (l := ki) (by omega)] at e
  refine e.trans ?_
  have hs : 237 < (N3.put ⟨false, ks, [], ki⟩).size := hs
  have ha : atM (N3.szs ⟨false, ks, [], ki⟩) 1 = a := hpt
  have hw : IntKind.i64.wrap ((a : Int) + 1) = ((a + 1 : Nat) : Int) := wr (a := (a : Int) + 1) (by omega) (by omega)
  obtain ⟨z, hz, _⟩ := getE (l := ks) (v := (a : Int)) (by omega) (by omega)
  obtain ⟨⟨q1, q2, _⟩, _⟩ := h.szs
  have q : P49 (N3.szs ⟨false, ks, [], ki⟩) 1 := ⟨q1, q2, .inr rfl⟩
  rw [if_pos h.1, decide_eq_false (by omega), cond_false, if_pos h.1, if_pos q, ha, hw, cut_t (l := ks) (by omega), cut_t (l := ki) (by omega), cut_d (l := ks) (by omega), cut_d (l := ki) (by omega), hz]
  simp only [Option.bind_some]
  rw [if_pos (show Sp2 (ks.take a).length (ki.take (a + 1)).length by unfold Sp2 Sp; rw [List.length_take, List.length_take]; omega), if_pos (show Sp2 (ks.drop (a + 1)).length (ki.drop (a + 1)).length by unfold Sp2 Sp; rw [List.length_drop, List.length_drop]; omega)]
  show _ = some ([], two29 _ _ ((getI ks a).getD ⟨#[]⟩))
  rw [hz]
  rfl
/-! ### Joined -/
theorem E23_ok : ∀ f S, E23 f = some S → SpecOk Try.prog f S := fun f S h => by
  unfold E23 at h
  split at h
  · cases h; exact sCopy_ok
  · cases h
def dJl (objs : List (TO U)) (args : List (TV U)) : Option (Bool × List ByteArray × List R33 × ByteArray × Bool × List ByteArray × List R33) := match objs, args with
  | [], [a0, a1, a2] =>
    match a0 with
    | .agg [q0, q1, q2, q3] =>
      match q0 with
      | .v (.bool b) =>
        match q1 with
        | .lst .str k1 =>
          match q2 with
          | .lst .t33 v1 =>
            match q3 with
            | .v (.slice none 0 0) =>
              match a1 with
              | .v (.string z) =>
                match a2 with
                | .agg [q4, q5, q6, q7] =>
                  match q4 with
                  | .v (.bool c) =>
                    match q5 with
                    | .lst .str k2 =>
                      match q6 with
                      | .lst .t33 v2 =>
                        match q7 with
                        | .v (.slice none 0 0) =>
                          some (b, k1, v1, z, c, k2, v2)
                        | _ => none
                      | _ => none
                    | _ => none
                  | _ => none
                | _ => none
              | _ => none
            | _ => none
          | _ => none
        | _ => none
      | _ => none
    | _ => none
  | _, _ => none
theorem dJl_ok {objs : List (TO U)} {args : List (TV U)} {b : Bool} {k1 : List ByteArray} {v1 : List R33} {z : ByteArray} {c : Bool} {k2 : List ByteArray} {v2 : List R33} (h : dJl objs args = some (b, k1, v1, z, c, k2, v2)) : objs = [] ∧ args = [.agg [.v (.bool b), .lst .str k1, .lst .t33 v1, .v (.slice none 0 0)], .v (.string z), .agg [.v (.bool c), .lst .str k2, .lst .t33 v2, .v (.slice none 0 0)]] := by
  unfold dJl at h
  repeat' split at h
  all_goals first | (cases h; done) | (cases h; exact ⟨rfl, rfl⟩)
def dJi (objs : List (TO U)) (args : List (TV U)) : Option (Bool × List ByteArray × List Int × ByteArray × Bool × List ByteArray × List Int) := match objs, args with
  | [], [a0, a1, a2] =>
    match a0 with
    | .agg [q0, q1, q2, q3] =>
      match q0 with
      | .v (.bool b) =>
        match q1 with
        | .lst .str k1 =>
          match q2 with
          | .v (.slice none 0 0) =>
            match q3 with
            | .lst .i64 i1 =>
              match a1 with
              | .v (.string z) =>
                match a2 with
                | .agg [q4, q5, q6, q7] =>
                  match q4 with
                  | .v (.bool c) =>
                    match q5 with
                    | .lst .str k2 =>
                      match q6 with
                      | .v (.slice none 0 0) =>
                        match q7 with
                        | .lst .i64 i2 =>
                          some (b, k1, i1, z, c, k2, i2)
                        | _ => none
                      | _ => none
                    | _ => none
                  | _ => none
                | _ => none
              | _ => none
            | _ => none
          | _ => none
        | _ => none
      | _ => none
    | _ => none
  | _, _ => none
theorem dJi_ok {objs : List (TO U)} {args : List (TV U)} {b : Bool} {k1 : List ByteArray} {i1 : List Int} {z : ByteArray} {c : Bool} {k2 : List ByteArray} {i2 : List Int} (h : dJi objs args = some (b, k1, i1, z, c, k2, i2)) : objs = [] ∧ args = [.agg [.v (.bool b), .lst .str k1, .v (.slice none 0 0), .lst .i64 i1], .v (.string z), .agg [.v (.bool c), .lst .str k2, .v (.slice none 0 0), .lst .i64 i2]] := by
  unfold dJi at h
  repeat' split at h
  all_goals first | (cases h; done) | (cases h; exact ⟨rfl, rfl⟩)
def PJ (b c q : Bool) (k1 k2 v1 v2 : Nat) : Prop := b = q ∧ c = q ∧ Sp k1 ∧ Sp k2 ∧ Sp v1 ∧ Sp v2
instance (b c q : Bool) (k1 k2 v1 v2 : Nat) : Decidable (PJ b c q k1 k2 v1 v2) := by unfold PJ; infer_instance
noncomputable def sJoiL : Spc U := .of dJl (fun (b, k1, v1, z, c, k2, v2) => PJ b c true k1.length k2.length v1.length v2.length) (fun _ => []) fun (b, k1, v1, z, c, k2, v2) => .agg [.v (.bool true), .lst .str (k1 ++ k2), .lst .t33 (v1 ++ v2), nlv]
noncomputable def sJoiI : Spc U := .of dJi (fun (b, k1, i1, z, c, k2, i2) => PJ b c false k1.length k2.length i1.length i2.length) (fun _ => []) fun (b, k1, i1, z, c, k2, i2) => .agg [.v (.bool false), .lst .str (k1 ++ [z] ++ k2), nlv, .lst .i64 (i1 ++ i2)]
theorem sJoiL_ok : SpecOk Try.prog 23 sJoiL := by
  refine fn_ok X_ok mixed E23_ok an0 lp0 Try.func23 (by kernel_rfl) (by kernel_rfl) (lp0_ok (by kernel_rfl)) fun objs args x hx hp => ?_
  obtain ⟨b, k1, v1, z, c, k2, v2⟩ := x
  obtain ⟨rfl, rfl⟩ := dJl_ok hx
  obtain ⟨hb, hc, ⟨a1, a2⟩, ⟨b1, b2⟩, ⟨c1, c2⟩, d1, d2⟩ := hp
  obtain rfl : b = true := hb
  obtain rfl : c = true := hc
  have e := e23l k1 k2 v1 v2 z
  have hk : k1.headD ⟨#[]⟩ :: k1.tail = k1 := cS_eq a1
  have hv : v1.headD ⟨⟨#[]⟩, 0, 0⟩ :: v1.tail = v1 := cV_eq c1
  rw [cS_eq a1, cS_eq b1, cV_eq c1, cV_eq d1, hk, hv] at e
  refine e.trans ?_
  rw [if_pos (show PreNd ⟨true, k1, v1, []⟩ from ⟨by show k1.length ≤ _; omega, by show v1.length ≤ _; omega, by show ([] : List Int).length ≤ _; simp⟩), if_pos (by omega), if_pos (by omega)]
  rfl
theorem sJoiI_ok : SpecOk Try.prog 23 sJoiI := by
  refine fn_ok X_ok mixed E23_ok an0 lp0 Try.func23 (by kernel_rfl) (by kernel_rfl) (lp0_ok (by kernel_rfl)) fun objs args x hx hp => ?_
  obtain ⟨b, k1, i1, z, c, k2, i2⟩ := x
  obtain ⟨rfl, rfl⟩ := dJi_ok hx
  obtain ⟨hb, hc, ⟨a1, a2⟩, ⟨b1, b2⟩, ⟨c1, c2⟩, d1, d2⟩ := hp
  obtain rfl : b = false := hb
  obtain rfl : c = false := hc
  have e := e23i k1 k2 i1 i2 z
  have hk : k1.headD ⟨#[]⟩ :: k1.tail = k1 := cS_eq a1
  have hv : i1.headD 0 :: i1.tail = i1 := cI_eq c1
  rw [cS_eq a1, cS_eq b1, cI_eq c1, cI_eq d1, hk, hv] at e
  refine e.trans ?_
  rw [if_pos (show PreNd ⟨false, k1, [], i1⟩ from ⟨by show k1.length ≤ _; omega, by show ([] : List R33).length ≤ _; simp, by show i1.length ≤ _; omega⟩), if_pos (by omega), if_pos (by rw [List.length_append, List.length_singleton]; omega), if_pos (by omega)]
  rfl
end Go.Proofs.Ytmcflglkfgnbbaa.Nd

/- Parts of a node: the law's function, for each shape. -/
namespace Go.Proofs.Ytmcflglkfgnbbaa.Nd
open Go Go.RowKit Go.Proofs.Ytmcflglkfgnbbaa.Eng
set_option linter.unusedVariables false
set_option linter.unusedSimpArgs false
set_option maxRecDepth 20000
set_option pp.fieldNotation false
noncomputable def E5 (Ei Pa At Jo : Spc U) : FuncId → Option (Spc U)
  | 15 => some sAwake
  | 16 => some sSame
  | 17 => some sRef
  | 18 => some Ei
  | 20 => some Pa
  | 22 => some At
  | 23 => some Jo
  | _ => none
theorem E5_ok {Ei Pa At Jo : Spc U} (h1 : SpecOk Try.prog 18 Ei) (h2 : SpecOk Try.prog 20 Pa) (h3 : SpecOk Try.prog 22 At) (h4 : SpecOk Try.prog 23 Jo) : ∀ f S, E5 Ei Pa At Jo f = some S → SpecOk Try.prog f S := fun f S h => by
  unfold E5 at h
  split at h
  · cases h; exact sAwake15_ok
  · cases h; exact sSame_ok
  · cases h; exact sRef_ok
  · cases h; exact h1
  · cases h; exact h2
  · cases h; exact h3
  · cases h; exact h4
  · cases h
theorem e5E1 (l : List
  R24) : (evFn X (E5 sEiE1 sParE2 sAtN sJoiL) an0 lp0 Try.f5 [] [TV.lst C.t24 l, TV.v (Value.bool true)]
  fun (o : List (TO (Cx.U X))) (v : TV (Cx.U X)) => some (o, v)) =
  if PeE true (l, true) then
  if PatN { L := true, K := [], V := List.map cvR [], I := [] } then
    if PnoE true [] then
      bif List.beq (ByteArray.toList (⟨#[]⟩ : ByteArray)) (ByteArray.toList (⟨#[]⟩ : ByteArray)) then
        if
            P16 { L := true, K := [], V := List.map cvR [], I := [] }
              { L := true, K := [], V := List.map cvR [], I := [] } 0 then
          some ([], TV.v (Value.bool true))
        else none
      else some ([], TV.v (Value.bool false))
    else none
  else none
else none := by kernel_rfl
theorem e5E2 (l : List
  R24) : (evFn X (E5 sEiE2 sParE1 sAtN sJoiL) an0 lp0 Try.f5 [] [TV.lst C.t24 l, TV.v (Value.bool false)]
  fun (o : List (TO (Cx.U X))) (v : TV (Cx.U X)) => some (o, v)) =
  if PeE false (l, false) then
  if PatN { L := false, K := [], V := List.map cvR [], I := [5] } then
    if PnoE false [5] ∧ 0 < 1 then
      bif List.beq (ByteArray.toList (⟨#[]⟩ : ByteArray)) (ByteArray.toList (⟨#[]⟩ : ByteArray)) then
        if
            P16 { L := false, K := [], V := List.map cvR [], I := cI [5] }
              { L := false, K := [], V := List.map cvR [], I := [5] } 0 then
          some ([], TV.v (Value.bool true))
        else none
      else some ([], TV.v (Value.bool false))
    else none
  else none
else none := by kernel_rfl
theorem e5L1 (l : List
  R24) (ks : List
  ByteArray) (vs : List
  R33) : (evFn X (E5 (sEiL ks vs) sParL1 sAtN sJoiL) an0 lp0 Try.f5 [] [TV.lst C.t24 l, TV.v (Value.bool true)]
  fun (o : List (TO (Cx.U X))) (v : TV (Cx.U X)) => some (o, v)) =
  if PeL ks vs (l, true) then
  if PreRf (List.length (cV vs)) then
    if PatN { L := true, K := cS ks, V := List.map cvR (cV vs), I := [] } then
      if true = true ∧ PnoL (cS ks) (cV vs) then
        bif List.beq (ByteArray.toList (⟨#[]⟩ : ByteArray)) (ByteArray.toList (⟨#[]⟩ : ByteArray)) then
          if PreRf (List.length (cV (cV vs))) then
            if PreRf (List.length (cV vs)) then
              if
                  P16 { L := true, K := cS (cS ks), V := List.map cvR (cV (cV vs)), I := [] }
                    { L := true, K := cS ks, V := List.map cvR (cV vs), I := [] } 0 then
                some ([], TV.v (Value.bool true))
              else none
            else none
          else none
        else some ([], TV.v (Value.bool false))
      else none
    else none
  else none
else none := by kernel_rfl
theorem e5I1 (l : List
  R24) (ks : List
  ByteArray) (ki : List
  Int) : (evFn X (E5 (sEiI ks ki) sParI1 sAtN sJoiL) an0 lp0 Try.f5 [] [TV.lst C.t24 l, TV.v (Value.bool false)]
  fun (o : List (TO (Cx.U X))) (v : TV (Cx.U X)) => some (o, v)) =
  if PeI ks ki (l, false) then
  if PreRf 0 then
    if PatN { L := false, K := cS ks, V := List.map cvR [], I := cI ki } then
      if false = false ∧ PnoI (cS ks) (cI ki) then
        bif List.beq (ByteArray.toList (⟨#[]⟩ : ByteArray)) (ByteArray.toList (⟨#[]⟩ : ByteArray)) then
          if PreRf 0 then
            if PreRf 0 then
              if
                  P16 { L := false, K := cS (cS ks), V := List.map cvR [], I := cI (cI ki) }
                    { L := false, K := cS ks, V := List.map cvR [], I := cI ki } 0 then
                some ([], TV.v (Value.bool true))
              else none
            else none
          else none
        else some ([], TV.v (Value.bool false))
      else none
    else none
  else none
else none := by kernel_rfl
theorem e5L2 (l : List
  R24) (ks : List
  ByteArray) (vs : List
  R33) (a : Nat) : (evFn X (E5 (sEiL ks vs) (sParL2 a) sAtY sJoiL) an0 lp0 Try.f5 []
  [TV.lst C.t24 l, TV.v (Value.bool true)] fun (o : List (TO (Cx.U X))) (v : TV (Cx.U X)) => some (o, v)) =
  if PeL ks vs (l, true) then
  if PreRf (List.length (cV vs)) then
    if PatY { L := true, K := cS ks, V := List.map cvR (cV vs), I := [] } then
      if true = true ∧ PyeL (cS ks) (cV vs) a then
        bif decide (N3.pt (N4.n3 { L := true, K := cS ks, V := List.map cvR (cV vs), I := [] }) < 0) then
          some ([], TV.v (Value.bool false))
        else
          Option.bind (getI (cS ks) (N3.pt (N4.n3 { L := true, K := cS ks, V := List.map cvR (cV vs), I := [] })))
            fun (z : Univ.T (Cx.U X) C.str) =>
            bif !ByteArray.toList (Option.getD (getI (cS ks) (↑a : Int)) (⟨#[]⟩ : ByteArray)) == ByteArray.toList z then
              some ([], TV.v (Value.bool false))
            else
              bif
                  !decide
                      ((↑(List.length (cS (List.take a (cS ks)))) : Int) =
                        N3.pt (N4.n3 { L := true, K := cS ks, V := List.map cvR (cV vs), I := [] })) then
                some ([], TV.v (Value.bool false))
              else
                if
                    PJ true true true (List.length (cS (List.take a (cS ks)))) (List.length (cS (List.drop a (cS ks))))
                      (List.length (cV (List.take a (cV vs)))) (List.length (cV (List.drop a (cV vs)))) then
                  if PreRf (List.length (cV (List.take a (cV vs)) ++ cV (List.drop a (cV vs)))) then
                    if PreRf (List.length (cV vs)) then
                      if
                          P16
                            { L := true, K := cS (List.take a (cS ks)) ++ cS (List.drop a (cS ks)),
                              V := List.map cvR (cV (List.take a (cV vs)) ++ cV (List.drop a (cV vs))), I := [] }
                            { L := true, K := cS ks, V := List.map cvR (cV vs), I := [] } 0 then
                        bif
                            decide
                              ((↑(List.length (cS (List.drop a (cS ks)))) : Int) =
                                IntKind.wrap IntKind.i64
                                  ((↑(List.length (cS ks)) : Int) -
                                    N3.pt (N4.n3 { L := true, K := cS ks, V := List.map cvR (cV vs), I := [] }))) then
                          some ([], TV.v (Value.bool true))
                        else some ([], TV.v (Value.bool false))
                      else none
                    else none
                  else none
                else none
      else none
    else none
  else none
else none := by kernel_rfl
theorem e5I2 (l : List
  R24) (ks : List
  ByteArray) (ki : List
  Int) (a : Nat) : (evFn X (E5 (sEiI ks ki) (sParI2 a) sAtY sJoiI) an0 lp0 Try.f5 []
  [TV.lst C.t24 l, TV.v (Value.bool false)] fun (o : List (TO (Cx.U X))) (v : TV (Cx.U X)) => some (o, v)) =
  if PeI ks ki (l, false) then
  if PreRf 0 then
    if PatY { L := false, K := cS ks, V := List.map cvR [], I := cI ki } then
      if false = false ∧ PyeI (cS ks) (cI ki) a then
        bif decide (N3.pt (N4.n3 { L := false, K := cS ks, V := List.map cvR [], I := cI ki }) < 0) then
          some ([], TV.v (Value.bool false))
        else
          Option.bind (getI (cS ks) (N3.pt (N4.n3 { L := false, K := cS ks, V := List.map cvR [], I := cI ki })))
            fun (z : Univ.T (Cx.U X) C.str) =>
            bif !ByteArray.toList (Option.getD (getI (cS ks) (↑a : Int)) (⟨#[]⟩ : ByteArray)) == ByteArray.toList z then
              some ([], TV.v (Value.bool false))
            else
              bif
                  !decide
                      ((↑(List.length (cS (List.take a (cS ks)))) : Int) =
                        N3.pt (N4.n3 { L := false, K := cS ks, V := List.map cvR [], I := cI ki })) then
                some ([], TV.v (Value.bool false))
              else
                if
                    PJ false false false (List.length (cS (List.take a (cS ks))))
                      (List.length (cS (List.drop (a + 1) (cS ks)))) (List.length (cI (List.take (a + 1) (cI ki))))
                      (List.length (cI (List.drop (a + 1) (cI ki)))) then
                  if PreRf 0 then
                    if PreRf 0 then
                      if
                          P16
                            { L := false,
                              K :=
                                cS (List.take a (cS ks)) ++ [Option.getD (getI (cS ks) (↑a : Int)) (⟨#[]⟩ : ByteArray)] ++
                                  cS (List.drop (a + 1) (cS ks)),
                              V := List.map cvR [],
                              I := cI (List.take (a + 1) (cI ki)) ++ cI (List.drop (a + 1) (cI ki)) }
                            { L := false, K := cS ks, V := List.map cvR [], I := cI ki } 0 then
                        some
                          ([],
                            TV.v
                              (Value.bool
                                (decide
                                  ((↑(List.length (cS (List.drop (a + 1) (cS ks)))) : Int) =
                                    IntKind.wrap IntKind.i64
                                      (IntKind.wrap IntKind.i64
                                          ((↑(List.length (cS ks)) : Int) -
                                            N3.pt
                                              (N4.n3 { L := false, K := cS ks, V := List.map cvR [], I := cI ki })) -
                                        1)))))
                      else none
                    else none
                  else none
                else none
      else none
    else none
  else none
else none := by kernel_rfl
end Go.Proofs.Ytmcflglkfgnbbaa.Nd

/- How great the parts of a node are. -/
namespace Go.Proofs.Ytmcflglkfgnbbaa.Nd
open Go Go.RowKit Go.Proofs.Ytmcflglkfgnbbaa.Eng
set_option linter.unusedVariables false
set_option linter.unusedSimpArgs false
set_option maxRecDepth 20000
theorem bL_len (n : Nat) : (n < 128 → (bL n).length = 1) ∧ (n < 16384 → (bL n).length ≤ 2) ∧ (n < 2097152 → (bL n).length ≤ 3) := by
  have h1 : ∀ n : Nat, n < 128 → (bL n).length = 1 := fun n h => by unfold bL; rw [if_pos h]; rfl
  have h2 : ∀ n : Nat, n < 16384 → (bL n).length ≤ 2 := fun n h => by
    unfold bL
    split
    · simp
    · have := h1 (n / 128) (by omega)
      rw [List.length_cons]; omega
  refine ⟨h1 n, h2 n, fun h => ?_⟩
  unfold bL
  split
  · simp
  · have := h2 (n / 128) (by omega)
    rw [List.length_cons]; omega
theorem numB_len (v : Int) (h : 0 ≤ v) (h2 : v < 2097152) : (numB (IntKind.u64.wrap v)).size = (bL v.toNat).length := by
  have e : IntKind.u64.wrap v = v := by
    show v % (2 ^ 64) = v
    omega
  rw [e, ← numB_bL, tl8_len]
theorem numB_1 {v : Int} (h : 0 ≤ v) (h2 : v < 128) : (numB (IntKind.u64.wrap v)).size = 1 := by rw [numB_len v h (by omega)]; exact (bL_len _).1 (by omega)
theorem numB_2 {v : Int} (h : 0 ≤ v) (h2 : v < 16384) : (numB (IntKind.u64.wrap v)).size ≤ 2 := by rw [numB_len v h (by omega)]; exact (bL_len _).2.1 (by omega)
theorem numB_3 {v : Int} (h : 0 ≤ v) (h2 : v < 2097152) : (numB (IntKind.u64.wrap v)).size ≤ 3 := by rw [numB_len v h (by omega)]; exact (bL_len _).2.2 (by omega)
theorem textB_len {s : ByteArray} (h : s.size ≤ 64) : (textB s).size = 1 + s.size := by
  unfold textB
  rw [app_size, numB_1 (by omega) (by omega)]
def VokB (v : R33) : Prop := (0 ≤ v.Page → v.Page ≤ 16383 ∧ 0 ≤ v.Len ∧ v.Len ≤ 65536 ∧ v.Data.size ≤ 48) ∧ (v.Page < 0 → v.Data.size ≤ 48)
theorem entB_115 {k : ByteArray} {v : R33} (hk : k.size ≤ 64) (hv : VokB v) : (entB k v).size ≤ 115 := by
  have h1 := textB_len hk
  unfold entB
  by_cases hp : 0 ≤ v.Page
  · obtain ⟨a, b, c, _⟩ := hv.1 hp
    have h2 := numB_2 hp (by omega)
    have h3 := numB_3 b (by omega)
    rw [decide_eq_true hp, cond_true, app_size, app_size, app_size, sz1]
    omega
  · have := hv.2 (by omega)
    have h2 := textB_len (s := v.Data) (by omega)
    rw [decide_eq_false hp, cond_false, app_size, app_size, sz1]
    omega
theorem lnkB_67 {k : ByteArray} {n : Int} (hk : k.size ≤ 64) (h0 : 0 ≤ n) (h1 : n ≤ 16383) : (lnkB k n).size ≤ 67 ∧ (lnkB k n).size = 1 + k.size + (numB (IntKind.u64.wrap n)).size := by
  have h1' := textB_len hk
  have h2 := numB_2 h0 (by omega)
  unfold lnkB
  rw [app_size]
  omega
/-! ### What a leaf of some keys has -/
theorem mem_insB {α : Type} {xs : List α} {y z : α} {i : Int} (h : z ∈ insL xs [y] i) : z ∈ xs ∨ z = y := by
  unfold insL at h
  rw [List.mem_append, List.mem_append, List.mem_singleton] at h
  rcases h with h | h | h
  · exact .inl (List.mem_of_mem_take h)
  · exact .inr h
  · exact .inl (List.mem_of_mem_drop h)
theorem and_bdB (x : Int) : 0 ≤ IntKind.i64.wrap (↑(BitVec.ofInt IntKind.i64.bits x &&& BitVec.ofInt IntKind.i64.bits 16383).toNat : Int) ∧ IntKind.i64.wrap (↑(BitVec.ofInt IntKind.i64.bits x &&& BitVec.ofInt IntKind.i64.bits 16383).toNat : Int) ≤ 16383 := by
  have h : (BitVec.ofInt IntKind.i64.bits x &&& BitVec.ofInt IntKind.i64.bits 16383).toNat ≤ 16383 := by
    rw [BitVec.toNat_and]
    exact Nat.le_trans Nat.and_le_right (by decide)
  rw [wr (by omega) (by omega)]
  omega
theorem pgI_bdB (z : R24) : 0 ≤ pgI z ∧ pgI z ≤ 16383 := and_bdB z.Page
theorem keyP_64 (z : R24) : (keyP z).size ≤ 64 := by
  unfold keyP
  rw [ByteArray.size_extract]
  omega
theorem valP_okB (z : R24) : VokB (valP z) := by
  unfold valP
  cases decide (IntKind.i64.wrap (↑(BitVec.ofInt IntKind.i64.bits z.Page &&& BitVec.ofInt IntKind.i64.bits 1).toNat : Int) = 0) with
  | true =>
    refine ⟨fun h => absurd h (by show ¬ (0 : Int) ≤ -1; omega), fun _ => ?_⟩
    show (z.V.extract 0 (min z.V.size 48)).size ≤ 48
    rw [ByteArray.size_extract]
    omega
  | false =>
    obtain ⟨a1, a2⟩ := and_bdB z.Page
    obtain ⟨b1, b2⟩ := and_bdB z.Len
    have hw : ∀ y : Int, 0 ≤ y → y ≤ 16383 → IntKind.i64.wrap (49 + y) = 49 + y := fun y h0 h1 => wr (by omega) (by omega)
    refine ⟨fun h => ⟨a2, ?_, ?_, by show (0 : Nat) ≤ 48; omega⟩, fun h => absurd h (by show ¬ IntKind.i64.wrap _ < 0; omega)⟩
    · show 0 ≤ IntKind.i64.wrap (49 + _)
      rw [hw _ b1 b2]
      omega
    · show IntKind.i64.wrap (49 + _) ≤ 65536
      rw [hw _ b1 b2]
      omega
theorem fold_allB : ∀ (l : List R24) (c : List ByteArray × List R33), (∀ k ∈ c.1, k.size ≤ 64) → (∀ v ∈ c.2, VokB v) → (∀ k ∈ (l.foldl stL c).1, k.size ≤ 64) ∧ ∀ v ∈ (l.foldl stL c).2, VokB v
  | [], c, h1, h2 => ⟨h1, h2⟩
  | z :: l, c, h1, h2 => by
    rw [List.foldl_cons]
    refine fold_allB l (stL c z) (fun k hk => ?_) (fun v hv => ?_)
    · have hk : k ∈ sK c.1 (keyP z) := hk
      unfold sK at hk
      cases hi : isK c.1 (keyP z) with
      | true => rw [hi] at hk; exact h1 k hk
      | false =>
        rw [hi] at hk
        rcases mem_insB hk with h | rfl
        · exact h1 k h
        · exact keyP_64 z
    · have hv : v ∈ sV c.1 c.2 (keyP z) (valP z) := hv
      unfold sV at hv
      cases hi : isK c.1 (keyP z) with
      | true =>
        rw [hi] at hv
        rcases List.mem_or_eq_of_mem_set hv with h | rfl
        · exact h2 v h
        · exact valP_okB z
      | false =>
        rw [hi] at hv
        rcases mem_insB hv with h | rfl
        · exact h2 v h
        · exact valP_okB z
/-- A leaf, an inner node, of a size that is known. -/
def LfB (ks : List ByteArray) (vs : List R33) : Prop := vs.length = ks.length ∧ ks.length ≤ 40 ∧ (∀ k ∈ ks, k.size ≤ 64) ∧ ∀ v ∈ vs, VokB v
def LiB (ks : List ByteArray) (ki : List Int) : Prop := ki.length = ks.length + 1 ∧ ks.length ≤ 40 ∧ (∀ k ∈ ks, k.size ≤ 64) ∧ ∀ n ∈ ki, 0 ≤ n ∧ n ≤ 16383
theorem lf_okB (l : List R24) : LfB (lfP l).1 (lfP l).2 := by
  obtain ⟨⟨h1, h2, h3⟩, h4⟩ := lfP_ok l
  obtain ⟨h5, h6⟩ := fold_allB (l.take 40) ([], []) (by simp) (by simp)
  exact ⟨h1.symm, by omega, h5, h6⟩
theorem li_okB (l : List R24) : LiB (lfP l).1 (inI l (lfP l).1.length) := by
  obtain ⟨h1, h2, h3, h4⟩ := lf_okB l
  have h6 := lfP_len l
  refine ⟨?_, h2, h3, fun n hn => ?_⟩
  · unfold inI
    rw [List.length_cons, List.length_map, List.length_take]
    omega
  · unfold inI at hn
    rw [List.mem_cons, List.mem_map] at hn
    rcases hn with rfl | ⟨z, _, rfl⟩
    · decide
    · exact pgI_bdB z
theorem LfB.sm {ks : List ByteArray} {vs : List R33} (h : LfB ks vs) : (nL ks vs).Sm ∧ (∀ x ∈ (nL ks vs).szs, 0 ≤ x ∧ x ≤ 115) := by
  obtain ⟨h1, h2, h3, h4⟩ := h
  have hok : (nL ks vs).Ok := by
    refine ⟨by show ks.length ≤ _; omega, fun k hk => ?_, fun v hv => ?_, fun _ => h1, fun h => by cases h⟩
    · have := h3 k hk; unfold Sz; omega
    · have := h4 v hv
      unfold Sz
      by_cases hp : 0 ≤ v.Page
      · have := (this.1 hp).2.2.2; omega
      · have := this.2 (by omega); omega
  have hp : ∀ p ∈ (nL ks vs).pcs, p.size ≤ 115 := by
    intro p hp
    have hp : p ∈ List.zipWith entB ks vs := hp
    obtain ⟨i, hi, rfl⟩ := List.mem_iff_getElem.1 hp
    rw [List.getElem_zipWith]
    exact entB_115 (h3 _ (List.getElem_mem _)) (h4 _ (List.getElem_mem _))
  refine ⟨⟨hok, fun p hp' => by have := hp p hp'; omega, by show ks.length ≤ 1000; omega⟩, fun x hx => ?_⟩
  unfold N3.szs at hx
  rw [List.mem_map] at hx
  obtain ⟨p, hp', rfl⟩ := hx
  have := hp p hp'
  omega
theorem LiB.sm {ks : List ByteArray} {ki : List Int} (h : LiB ks ki) : (nI ks ki).Sm ∧ (∀ x ∈ (nI ks ki).szs, 0 ≤ x ∧ x ≤ 67) := by
  obtain ⟨h1, h2, h3, h4⟩ := h
  have hok : (nI ks ki).Ok := by
    refine ⟨by show ks.length ≤ _; omega, fun k hk => ?_, fun v hv => ?_, (fun h => by cases h), fun _ => h1⟩
    · have := h3 k hk; unfold Sz; omega
    · have hv : v ∈ ([] : List R33) := hv; cases hv
  have hp : ∀ p ∈ (nI ks ki).pcs, p.size ≤ 67 := by
    intro p hp
    have hp : p ∈ List.zipWith lnkB ks (ki.drop 1) := hp
    obtain ⟨i, hi, rfl⟩ := List.mem_iff_getElem.1 hp
    rw [List.getElem_zipWith]
    have := h4 _ (List.mem_of_mem_drop (List.getElem_mem (l := ki.drop 1) (n := i) (by rw [List.length_zipWith] at hi; omega)))
    exact (lnkB_67 (h3 _ (List.getElem_mem _)) this.1 this.2).1
  refine ⟨⟨hok, fun p hp' => by have := hp p hp'; omega, by show ks.length ≤ 1000; omega⟩, fun x hx => ?_⟩
  unfold N3.szs at hx
  rw [List.mem_map] at hx
  obtain ⟨p, hp', rfl⟩ := hx
  have := hp p hp'
  omega
theorem foldl_app_size : ∀ (l : List ByteArray) (h : ByteArray), ((l.foldl (· ++ ·) h).size : Int) = h.size + (l.map fun p => (p.size : Int)).sum
  | [], h => by simp
  | p :: l, h => by
    rw [List.foldl_cons, foldl_app_size l (h ++ p), app_size, List.map_cons, List.sum_cons]
    omega
theorem put_size (n : N3) : (n.put.size : Int) = n.hd.size + n.szs.sum := foldl_app_size _ _
theorem hd_L {ks : List ByteArray} {vs : List R33} (h : ks.length < 128) : (nL ks vs).hd.size = 1 := by
  show (numB (IntKind.u64.wrap (ks.length : Int))).size = 1
  exact numB_1 (by omega) (by omega)
theorem hd_I {ks : List ByteArray} {ki : List Int} (h : ks.length < 128) (h0 : 0 ≤ ki.headD 0) (h1 : ki.headD 0 ≤ 16383) : (nI ks ki).hd.size ≤ 3 ∧ (nI ks ki).hd.size = 1 + (numB (IntKind.u64.wrap (ki.headD 0))).size := by
  have e : (nI ks ki).hd = numB (IntKind.u64.wrap (ks.length : Int)) ++ numB (IntKind.u64.wrap (ki.headD 0)) := rfl
  have := numB_1 (v := (ks.length : Int)) (by omega) (by omega)
  have := numB_2 h0 (by omega)
  rw [e, app_size]
  omega
theorem LiB.hd {ks : List ByteArray} {ki : List Int} (h : LiB ks ki) : (nI ks ki).hd.size ≤ 3 := by
  obtain ⟨h1, h2, h3, h4⟩ := h
  cases ki with
  | nil => simp at h1
  | cons x l => exact (hd_I (ks := ks) (ki := x :: l) (by omega) (h4 x List.mem_cons_self).1 (h4 x List.mem_cons_self).2).1
theorem szs_len {n : N3} (h : n.Ok) : n.szs.length = n.K.length := by unfold N3.szs; rw [List.length_map, h.pcs]
/-- The place at which a leaf that is too great is parted. -/
theorem ptL {ks : List ByteArray} {vs : List R33} (h : LfB ks vs) (hs : 237 < (nL ks vs).put.size) : ∃ a : Nat, PyeL ks vs a ∧ (∀ j, 1 ≤ j → j + 1 ≤ ks.length → costP (nL ks vs).szs 0 a ≤ costP (nL ks vs).szs 0 j) := by
  obtain ⟨h1, h2⟩ := h.sm
  have hl : (nL ks vs).szs.length = ks.length := szs_len h1.1
  have hp := put_size (nL ks vs)
  have hh := hd_L (ks := ks) (vs := vs) (by have := h.2.1; omega)
  have hb := sum_le (z := (nL ks vs).szs) (B := 115) fun x hx => (h2 x hx).2
  obtain ⟨a, e, a1, a2, a3, a4⟩ := pk_place (z := (nL ks vs).szs) (g := 0) (fun x hx => (h2 x hx).1) (by omega)
  refine ⟨a, ⟨h1, hs, ?_, a1, by omega⟩, fun j j1 j2 => a3 j j1 (by omega)⟩
  show (pkP (costP (nL ks vs).szs (gP true)) _).2 = _
  exact congrArg Prod.snd e
theorem ptI {ks : List ByteArray} {ki : List Int} (h : LiB ks ki) (hs : 237 < (nI ks ki).put.size) : ∃ a : Nat, PyeI ks ki a ∧ (∀ j, 1 ≤ j → j + 1 ≤ ks.length → costP (nI ks ki).szs 1 a ≤ costP (nI ks ki).szs 1 j) := by
  obtain ⟨h1, h2⟩ := h.sm
  have hl : (nI ks ki).szs.length = ks.length := szs_len h1.1
  have hp := put_size (nI ks ki)
  have hh := h.hd
  have hb := sum_le (z := (nI ks ki).szs) (B := 67) fun x hx => (h2 x hx).2
  obtain ⟨a, e, a1, a2, a3, a4⟩ := pk_place (z := (nI ks ki).szs) (g := 1) (fun x hx => (h2 x hx).1) (by omega)
  have a5 := pk_place1 (z := (nI ks ki).szs) (fun x hx => (h2 x hx).1) (B := 67) (fun x hx => (h2 x hx).2) (by omega) (by omega) a a1 a2 a4
  refine ⟨a, ⟨h1, hs, ?_, a1, by omega⟩, fun j j1 j2 => a3 j j1 (by omega)⟩
  show (pkP (costP (nI ks ki).szs (gP false)) _).2 = _
  exact congrArg Prod.snd e
end Go.Proofs.Ytmcflglkfgnbbaa.Nd

/- Parts of a node: the law's function is true, for each input. -/
namespace Go.Proofs.Ytmcflglkfgnbbaa.Nd
open Go Go.RowKit Go.Proofs.Ytmcflglkfgnbbaa.Eng
set_option linter.unusedVariables false
set_option linter.unusedSimpArgs false
set_option maxRecDepth 20000
set_option pp.fieldNotation false
theorem cvB_n3 (L : Bool) (ks : List ByteArray) (vs : List R33) (ki : List Int) : N4.n3 ⟨L, ks, vs.map cvR, ki⟩ = ⟨L, ks, vs, ki⟩ := refP_n3 L ks vs ki
theorem p16_B {n : N4} (h1 : n.K.length ≤ 1000000) (h2 : n.V.length ≤ 1000000) (h3 : n.I.length ≤ 1000000) : P16 n n 0 := ⟨rfl, rfl, by omega, by omega, by omega⟩
def P5 (l : List R24) (b : Bool) (x : List R24 × Bool) : Prop := x = (l, b)
noncomputable instance (l : List R24) (b : Bool) : DecidablePred (P5 l b) := fun _ => Classical.propDecidable _
noncomputable def sLaw5 (l : List R24) (b : Bool) : Spc U := .of d18 (P5 l b) (fun _ => []) fun _ => .v (.bool true)
theorem beq_self8 (l : List UInt8) : List.beq l l = true := beq_self_eq_true (α := List UInt8) l
theorem smE (b : Bool) (ki : List Int) (hk : b = false → ki.length = 1) : (N3.mk b [] [] ki).Sm := ⟨⟨by simp, by simp, by simp, fun _ => rfl, fun h => hk h⟩, by cases b <;> simp [N3.pcs, pcs], by simp⟩
theorem sLaw5E1 (l : List R24) (he : (lfP l).1 = []) : SpecOk Try.prog 5 (sLaw5 l true) := by
  refine fn_ok X_ok mixed (E5_ok sEiE1_ok sParE2_ok sAtN_ok sJoiL_ok) an0 lp0 Try.func5 (by kernel_rfl) (by kernel_rfl) (lp0_ok (by kernel_rfl)) fun objs args x hx hp => ?_
  obtain rfl : x = (l, true) := hp
  obtain ⟨rfl, rfl⟩ := d18_ok hx
  have c1 : PnoE true [] := ⟨smE true [] (by simp), by
    have := put_size (N3.mk true [] [] [])
    have h2 := hd_L (ks := []) (vs := []) (by simp)
    have h3 : (N3.mk true [] [] []).szs.sum = 0 := rfl
    have h2 : (N3.mk true [] [] []).hd.size = 1 := h2
    omega⟩
  refine (e5E1 l).trans ?_
  rw [if_pos (show PeE true (l, true) from ⟨rfl, he⟩), if_pos (show PatN ⟨true, [], List.map cvR [], []⟩ from c1), if_pos c1, beq_self8, cond_true]
  exact if_pos (p16_B (by simp) (by simp) (by simp))
theorem sLaw5E2 (l : List R24) (he : (lfP l).1 = []) : SpecOk Try.prog 5 (sLaw5 l false) := by
  refine fn_ok X_ok mixed (E5_ok sEiE2_ok sParE1_ok sAtN_ok sJoiL_ok) an0 lp0 Try.func5 (by kernel_rfl) (by kernel_rfl) (lp0_ok (by kernel_rfl)) fun objs args x hx hp => ?_
  obtain rfl : x = (l, false) := hp
  obtain ⟨rfl, rfl⟩ := d18_ok hx
  have c1 : PnoE false [5] := ⟨smE false [5] (by simp), by
    have := put_size (N3.mk false [] [] [5])
    have h2 := hd_I (ks := []) (ki := [5]) (by simp) (by decide) (by decide)
    have h3 : (N3.mk false [] [] [5]).szs.sum = 0 := rfl
    have h2 : (N3.mk false [] [] [5]).hd.size ≤ 3 := h2.1
    omega⟩
  refine (e5E2 l).trans ?_
  rw [if_pos (show PeE false (l, false) from ⟨rfl, he⟩), if_pos (show PatN ⟨false, [], List.map cvR [], [5]⟩ from c1), if_pos (⟨c1, by decide⟩ : PnoE false [5] ∧ 0 < 1), beq_self8, cond_true]
  exact if_pos (p16_B (by simp) (by simp) (by show (5 :: ([] : List Int)).length ≤ _; simp))
theorem sLaw5L1 (l : List R24) (h0 : 0 < (lfP l).1.length) (hs : (nL (lfP l).1 (lfP l).2).put.size ≤ 237) : SpecOk Try.prog 5 (sLaw5 l true) := by
  have hb := lf_okB l
  refine fn_ok X_ok mixed (E5_ok (sEiL_ok (lfP l).1 (lfP l).2) sParL1_ok sAtN_ok sJoiL_ok) an0 lp0 Try.func5 (by kernel_rfl) (by kernel_rfl) (lp0_ok (by kernel_rfl)) fun objs args x hx hp => ?_
  obtain rfl : x = (l, true) := hp
  obtain ⟨rfl, rfl⟩ := d18_ok hx
  have e := e5L1 l (lfP l).1 (lfP l).2
  have hpe : PeL (lfP l).1 (lfP l).2 (l, true) := ⟨rfl, rfl, rfl, h0⟩
  generalize (lfP l).1 = ks at *
  generalize (lfP l).2 = vs at *
  have hb' : LfB ks vs := hb
  obtain ⟨b1, b2, _⟩ := hb
  rw [cS_eq h0, cV_eq (l := vs) (by omega), cS_eq h0, cV_eq (l := vs) (by omega)] at e
  have c1 : PreRf vs.length := by unfold PreRf; omega
  refine e.trans ?_
  rw [if_pos hpe, if_pos c1, if_pos (show PatN ⟨true, ks, vs.map cvR, []⟩ by unfold PatN; rw [cvB_n3]; exact ⟨hb'.sm.1, hs⟩), if_pos (⟨rfl, hb'.sm.1, hs, h0⟩ : true = true ∧ PnoL ks vs), beq_self8, cond_true, if_pos c1, if_pos c1]
  exact if_pos (p16_B (by show ks.length ≤ _; omega) (by show (vs.map cvR).length ≤ _; rw [List.length_map]; omega) (by simp))
theorem sLaw5I1 (l : List R24) (h0 : 0 < (lfP l).1.length) (hs : (nI (lfP l).1 (inI l (lfP l).1.length)).put.size ≤ 237) : SpecOk Try.prog 5 (sLaw5 l false) := by
  have hb := li_okB l
  refine fn_ok X_ok mixed (E5_ok (sEiI_ok (lfP l).1 (inI l (lfP l).1.length)) sParI1_ok sAtN_ok sJoiL_ok) an0 lp0 Try.func5 (by kernel_rfl) (by kernel_rfl) (lp0_ok (by kernel_rfl)) fun objs args x hx hp => ?_
  obtain rfl : x = (l, false) := hp
  obtain ⟨rfl, rfl⟩ := d18_ok hx
  have e := e5I1 l (lfP l).1 (inI l (lfP l).1.length)
  have hpe : PeI (lfP l).1 (inI l (lfP l).1.length) (l, false) := ⟨rfl, rfl, rfl, h0⟩
  generalize inI l (lfP l).1.length = ki at *
  generalize (lfP l).1 = ks at *
  have hb' := hb
  obtain ⟨b1, b2, _⟩ := hb'
  rw [cS_eq h0, cI_eq (l := ki) (by omega), cS_eq h0, cI_eq (l := ki) (by omega)] at e
  have c1 : PreRf 0 := by unfold PreRf; omega
  refine e.trans ?_
  rw [if_pos hpe, if_pos c1, if_pos (show PatN ⟨false, ks, [].map cvR, ki⟩ by unfold PatN; rw [cvB_n3]; exact ⟨hb.sm.1, hs⟩), if_pos (⟨rfl, hb.sm.1, hs, h0⟩ : false = false ∧ PnoI ks ki), beq_self8, cond_true, if_pos c1, if_pos c1]
  exact if_pos (p16_B (by show ks.length ≤ _; omega) (by simp) (by show ki.length ≤ _; omega))
theorem sLaw5L2 (l : List R24) (hs : 237 < (nL (lfP l).1 (lfP l).2).put.size) : SpecOk Try.prog 5 (sLaw5 l true) := by
  have hb := lf_okB l
  obtain ⟨a, hpy, _⟩ := ptL hb hs
  refine fn_ok X_ok mixed (E5_ok (sEiL_ok (lfP l).1 (lfP l).2) (sParL2_ok a) sAtY_ok sJoiL_ok) an0 lp0 Try.func5 (by kernel_rfl) (by kernel_rfl) (lp0_ok (by kernel_rfl)) fun objs args x hx hp => ?_
  obtain rfl : x = (l, true) := hp
  obtain ⟨rfl, rfl⟩ := d18_ok hx
  have e := e5L2 l (lfP l).1 (lfP l).2 a
  obtain ⟨p1, p2, p3, p4, p5⟩ := hpy
  have h0 : 0 < (lfP l).1.length := by omega
  have hpe : PeL (lfP l).1 (lfP l).2 (l, true) := ⟨rfl, rfl, rfl, h0⟩
  generalize (lfP l).1 = ks at *
  generalize (lfP l).2 = vs at *
  have hb' : LfB ks vs := hb
  obtain ⟨b1, b2, _⟩ := hb
  have t1 : (ks.take a).length = a := by rw [List.length_take]; omega
  have t2 : (vs.take a).length = a := by rw [List.length_take]; omega
  have t3 : (ks.drop a).length = ks.length - a := by rw [List.length_drop]
  have t4 : (vs.drop a).length = vs.length - a := by rw [List.length_drop]
  rw [cS_eq (l := ks) h0, cV_eq (l := vs) (by omega), cS_eq (l := ks.take a) (by omega), cS_eq (l := ks.drop a) (by omega), cV_eq (l := vs.take a) (by omega), cV_eq (l := vs.drop a) (by omega), List.take_append_drop, List.take_append_drop, cvB_n3] at e
  have p3 : N3.pt ⟨true, ks, vs, []⟩ = a := p3
  obtain ⟨z, hz, _⟩ := getE (l := ks) (v := (a : Int)) (by omega) (by omega)
  have c1 : PreRf vs.length := by unfold PreRf; omega
  rw [p3, hz] at e
  refine e.trans ?_
  rw [if_pos hpe, if_pos c1, if_pos (show PatY ⟨true, ks, vs.map cvR, []⟩ by unfold PatY; rw [cvB_n3]; exact ⟨p1, hs⟩), if_pos (⟨rfl, p1, hs, p3, p4, p5⟩ : true = true ∧ PyeL ks vs a), decide_eq_false (by omega), cond_false, Option.bind_some]
  dsimp only [Option.getD_some]
  rw [beq_self_eq_true, Bool.not_true, cond_false, t1, decide_eq_true rfl, Bool.not_true, cond_false, if_pos (show PJ true true true a (ks.drop a).length (vs.take a).length (vs.drop a).length by rw [t2, t3, t4]; exact ⟨rfl, rfl, ⟨by omega, by omega⟩, ⟨by omega, by omega⟩, ⟨by omega, by omega⟩, ⟨by omega, by omega⟩⟩), if_pos c1, if_pos c1,
    if_pos (p16_B (n := ⟨true, ks, vs.map cvR, []⟩) (by show ks.length ≤ _; omega) (by show (vs.map cvR).length ≤ _; rw [List.length_map]; omega) (by simp)), t3, wr (a := (ks.length : Int) - a) (by omega) (by omega), decide_eq_true (by omega)]
  rfl
theorem sLaw5I2 (l : List R24) (hs : 237 < (nI (lfP l).1 (inI l (lfP l).1.length)).put.size) : SpecOk Try.prog 5 (sLaw5 l false) := by
  have hb := li_okB l
  obtain ⟨a, hpy, _⟩ := ptI hb hs
  refine fn_ok X_ok mixed (E5_ok (sEiI_ok (lfP l).1 (inI l (lfP l).1.length)) (sParI2_ok a) sAtY_ok sJoiI_ok) an0 lp0 Try.func5 (by kernel_rfl) (by kernel_rfl) (lp0_ok (by kernel_rfl)) fun objs args x hx hp => ?_
  obtain rfl : x = (l, false) := hp
  obtain ⟨rfl, rfl⟩ := d18_ok hx
  have e := e5I2 l (lfP l).1 (inI l (lfP l).1.length) a
  obtain ⟨p1, p2, p3, p4, p5⟩ := hpy
  have h0 : 0 < (lfP l).1.length := by omega
  have hpe : PeI (lfP l).1 (inI l (lfP l).1.length) (l, false) := ⟨rfl, rfl, rfl, h0⟩
  generalize inI l (lfP l).1.length = ki at *
  generalize (lfP l).1 = ks at *
  have hb' := hb
  obtain ⟨b1, b2, _⟩ := hb'
  have t1 : (ks.take a).length = a := by rw [List.length_take]; omega
  have t2 : (ki.take (a + 1)).length = a + 1 := by rw [List.length_take]; omega
  have t3 : (ks.drop (a + 1)).length = ks.length - (a + 1) := by rw [List.length_drop]
  have t4 : (ki.drop (a + 1)).length = ki.length - (a + 1) := by rw [List.length_drop]
  obtain ⟨z, hz, hz2⟩ := getE (l := ks) (v := (a : Int)) (by omega) (by omega)
  have hz2 : ks[a]? = some z := hz2
  have hjoin : ks.take a ++ [z] ++ ks.drop (a + 1) = ks := by
    have e1 : ks.take a ++ [z] = ks.take (a + 1) := by rw [List.take_add_one, hz2]; rfl
    rw [e1, List.take_append_drop]
  rw [cS_eq (l := ks) h0, cI_eq (l := ki) (by omega), cS_eq (l := ks.take a) (by omega), cS_eq (l := ks.drop (a + 1)) (by omega), cI_eq (l := ki.take (a + 1)) (by omega), cI_eq (l := ki.drop (a + 1)) (by omega), List.take_append_drop, cvB_n3] at e
  have p3 : N3.pt ⟨false, ks, [], ki⟩ = a := p3
  have c1 : PreRf 0 := by unfold PreRf; omega
  rw [p3, hz] at e
  simp only [Option.getD_some] at e
  rw [hjoin] at e
  refine e.trans ?_
  rw [if_pos hpe, if_pos c1, if_pos (show PatY ⟨false, ks, [].map cvR, ki⟩ by unfold PatY; rw [cvB_n3]; exact ⟨p1, hs⟩), if_pos (⟨trivial, p1, hs, p3, p4, p5⟩ : True ∧ PyeI ks ki a), decide_eq_false (by omega), cond_false, Option.bind_some]
  rw [beq_self_eq_true, Bool.not_true, cond_false, t1, decide_eq_true rfl, Bool.not_true, cond_false, if_pos (show PJ false false false a (ks.drop (a + 1)).length (ki.take (a + 1)).length (ki.drop (a + 1)).length by rw [t2, t3, t4]; exact ⟨rfl, rfl, ⟨by omega, by omega⟩, ⟨by omega, by omega⟩, ⟨by omega, by omega⟩, ⟨by omega, by omega⟩⟩), if_pos c1, if_pos c1,
    if_pos (p16_B (n := ⟨false, ks, [].map cvR, ki⟩) (by show ks.length ≤ _; omega) (by simp) (by show ki.length ≤ _; omega)), t3, wr (a := (ks.length : Int) - a) (by omega) (by omega), wr (a := (ks.length : Int) - a - 1) (by omega) (by omega), decide_eq_true (by omega)]
theorem sLaw5_ok (l : List R24) (b : Bool) : SpecOk Try.prog 5 (sLaw5 l b) := by
  cases b with
  | true =>
    by_cases h0 : 0 < (lfP l).1.length
    · by_cases hs : (nL (lfP l).1 (lfP l).2).put.size ≤ 237
      · exact sLaw5L1 l h0 hs
      · exact sLaw5L2 l (by omega)
    · exact sLaw5E1 l (List.eq_nil_of_length_eq_zero (by omega))
  | false =>
    by_cases h0 : 0 < (lfP l).1.length
    · by_cases hs : (nI (lfP l).1 (inI l (lfP l).1.length)).put.size ≤ 237
      · exact sLaw5I1 l h0 hs
      · exact sLaw5I2 l (by omega)
    · exact sLaw5E2 l (List.eq_nil_of_length_eq_zero (by omega))
theorem law5 (l : List R24) (b : Bool) : HCall Try.prog 5 [] [.lst 4 (l.map encS_t24), .v (.bool b)] [] (.v (.bool true)) :=
  ((sLaw5_ok l b).ok [] [.lst .t24 l, .v (.bool b)] [] (.v (.bool true)) (if_pos (show P5 l b (l, b) from rfl)) rfl rfl rfl).1
end Go.Proofs.Ytmcflglkfgnbbaa.Nd

/- Parts of a node that became too great: the law's function. -/
namespace Go.Proofs.Ytmcflglkfgnbbaa.Nd
open Go Go.RowKit Go.Proofs.Ytmcflglkfgnbbaa.Eng
set_option linter.unusedVariables false
set_option linter.unusedSimpArgs false
set_option maxRecDepth 20000
set_option pp.fieldNotation false
noncomputable def E21 : FuncId → Option (Spc U)
  | 19 => some sPut
  | _ => none
theorem e21 (n : N3) : (evFn X E21 an0 lp0 Try.f21 [] [N3.tv n] fun (o : List (TO (Cx.U X))) (v : TV (Cx.U X)) =>
  some (o, v)) =
  if N3.Ok n then some ([], TV.v (Value.bool (decide ((↑(ByteArray.size (N3.put n)) : Int) < 79))))
else none := by kernel_rfl
theorem E21_ok : ∀ f S, E21 f = some S → SpecOk Try.prog f S := fun f S h => by
  unfold E21 at h
  split at h
  · cases h; exact sPut_ok
  · cases h
noncomputable def sLow0 : Spc U := .of dN3 (fun n => n.Ok) (fun _ => []) fun n => .v (.bool (decide ((n.put.size : Int) < 79)))
theorem sLow0_ok : SpecOk Try.prog 21 sLow0 := by
  refine fn_ok X_ok mixed E21_ok an0 lp0 Try.func21 (by kernel_rfl) (by kernel_rfl) (lp0_ok (by kernel_rfl)) fun objs args n hx hp => ?_
  obtain ⟨rfl, rfl⟩ := dN3_ok hx
  exact (e21 n).trans (if_pos hp)
noncomputable def sLow : Spc U := sLow0.wkA [.a [.no, .l .str, .l .t33, .l .i64]]
theorem sLow_ok : SpecOk Try.prog 21 sLow := sLow0_ok.wkA _
noncomputable def E4 (Ei Pa : Spc U) : FuncId → Option (Spc U)
  | 15 => some sAwake
  | 18 => some Ei
  | 19 => some sPut
  | 20 => some Pa
  | 21 => some sLow
  | _ => none
theorem E4_ok {Ei Pa : Spc U} (h1 : SpecOk Try.prog 18 Ei) (h2 : SpecOk Try.prog 20 Pa) : ∀ f S, E4 Ei Pa f = some S → SpecOk Try.prog f S := fun f S h => by
  unfold E4 at h
  split at h
  · cases h; exact sAwake15_ok
  · cases h; exact h1
  · cases h; exact sPut_ok
  · cases h; exact h2
  · cases h; exact sLow_ok
  · cases h
def an4 : Ann := ⟨fun | 0 => 99 | 2 => 672 | _ => 0, fun | 0 => 115 | 2 => 176 | _ => 0, fun _ => [], false⟩
def g4t_S0 (l : List
  R24) (v2 : Int) : TS U := mkS 76
  [(0, TV.lst C.t24 l), (1, TV.v (Value.bool true)), (5, TV.ref 0 0 0), (6, TV.v (Value.int IntKind.i64 v2))]
  [TO.cells
      [TV.v (Value.bool true), TV.lst C.str (cS (Prod.fst (lfP l))), TV.lst C.t33 (cV (Prod.snd (lfP l))),
        TV.v (Value.slice none 0 0)]
      false]
  0
theorem g4t_e0 (lp : Lp
  U) (l : List
  R24) (a : Nat) (N : Nat) (v2 : Int) : fnLoop X (E4 sEiT (sParL2 a)) an4 lp Try.f4 0 (Nat.succ N) (g4t_S0 l v2) =
  bif decide (v2 < (↑(List.length l) : Int)) then
  Option.bind (cutI l none (some v2)) fun (ys : List (Univ.T (Cx.U X) C.t24)) =>
    if true = true then
      bif List.isEmpty (Prod.fst (lfP ys)) then
        if N3.Ok { L := true, K := [], V := [], I := [] } then
          fnLoop X (E4 sEiT (sParL2 a)) an4 lp Try.f4 0 N (g4t_S0 l (IntKind.wrap IntKind.i64 (v2 + 1)))
        else none
      else
        if N3.Ok { L := true, K := cS (Prod.fst (lfP ys)), V := cV (Prod.snd (lfP ys)), I := [] } then
          bif
              decide
                ((↑(ByteArray.size
                        (N3.put { L := true, K := cS (Prod.fst (lfP ys)), V := cV (Prod.snd (lfP ys)), I := [] })) :
                    Int) ≤
                  237) then
            fnLoop X (E4 sEiT (sParL2 a)) an4 lp Try.f4 0 N (g4t_S0 l (IntKind.wrap IntKind.i64 (v2 + 1)))
          else
            some
              (Exit.exit 0,
                mkS 76
                  [(0, TV.lst C.t24 l), (1, TV.v (Value.bool true)), (5, TV.ref 0 0 0),
                    (6, TV.v (Value.int IntKind.i64 v2))]
                  [TO.cells
                      [TV.v (Value.bool true), TV.lst C.str (cS (Prod.fst (lfP l))),
                        TV.lst C.t33 (cV (Prod.snd (lfP l))), TV.v (Value.slice none 0 0)]
                      false]
                  0)
        else none
    else none
else
  some
    (Exit.exit 0,
      mkS 76 [(0, TV.lst C.t24 l), (1, TV.v (Value.bool true)), (5, TV.ref 0 0 0), (6, TV.v (Value.int IntKind.i64 v2))]
        [TO.cells
            [TV.v (Value.bool true), TV.lst C.str (cS (Prod.fst (lfP l))), TV.lst C.t33 (cV (Prod.snd (lfP l))),
              TV.v (Value.slice none 0 0)]
            false]
        0) := by kernel_rfl
def S4f (l : List R24) (v : Int) : TS U := mkS 76 [(0, .lst .t24 l), (1, .v (.bool false)), (5, .ref 0 0 0), (6, .v (.int .i64 v))] [.cells [.v (.bool false), .lst .str (cS (lfP l).1), nlv, .lst .i64 (inI l (lfP l).1.length)] false] 0
theorem r4f (lp : Lp
  U) (N : Nat) (l : List
  R24) (a : Nat) (v : Int) : (fnLoop X (E4 sEiF (sParI2 a)) an4 lp Try.f4 0 (Nat.succ N) (S4f l v)) =
  bif decide (v < (↑(List.length l) : Int)) then
  Option.bind (cutI l none (some v)) fun (ys : List (Univ.T (Cx.U X) C.t24)) =>
    if false = false then
      bif List.isEmpty (Prod.fst (lfP ys)) then
        if N3.Ok { L := false, K := [], V := [], I := inI ys 0 } then
          bif decide ((↑(ByteArray.size (N3.put { L := false, K := [], V := [], I := inI ys 0 })) : Int) ≤ 237) then
            fnLoop X (E4 sEiF (sParI2 a)) an4 lp Try.f4 0 N
              (mkS 76
                [(0, TV.lst C.t24 l), (1, TV.v (Value.bool false)), (5, TV.ref 0 0 0),
                  (6, TV.v (Value.int IntKind.i64 (IntKind.wrap IntKind.i64 (v + 1))))]
                [TO.cells
                    [TV.v (Value.bool false), TV.lst C.str (cS (Prod.fst (lfP l))), TV.v (Value.slice none 0 0),
                      TV.lst C.i64 (inI l (List.length (Prod.fst (lfP l))))]
                    false]
                0)
          else
            some
              (Exit.exit 0,
                mkS 76
                  [(0, TV.lst C.t24 l), (1, TV.v (Value.bool false)), (5, TV.ref 0 0 0),
                    (6, TV.v (Value.int IntKind.i64 v))]
                  [TO.cells
                      [TV.v (Value.bool false), TV.lst C.str (cS (Prod.fst (lfP l))), TV.v (Value.slice none 0 0),
                        TV.lst C.i64 (inI l (List.length (Prod.fst (lfP l))))]
                      false]
                  0)
        else none
      else
        if
            N3.Ok
              { L := false, K := cS (Prod.fst (lfP ys)), V := [], I := inI ys (List.length (Prod.fst (lfP ys))) } then
          bif
              decide
                ((↑(ByteArray.size
                        (N3.put
                          { L := false, K := cS (Prod.fst (lfP ys)), V := [],
                            I := inI ys (List.length (Prod.fst (lfP ys))) })) :
                    Int) ≤
                  237) then
            fnLoop X (E4 sEiF (sParI2 a)) an4 lp Try.f4 0 N
              (mkS 76
                [(0, TV.lst C.t24 l), (1, TV.v (Value.bool false)), (5, TV.ref 0 0 0),
                  (6, TV.v (Value.int IntKind.i64 (IntKind.wrap IntKind.i64 (v + 1))))]
                [TO.cells
                    [TV.v (Value.bool false), TV.lst C.str (cS (Prod.fst (lfP l))), TV.v (Value.slice none 0 0),
                      TV.lst C.i64 (inI l (List.length (Prod.fst (lfP l))))]
                    false]
                0)
          else
            some
              (Exit.exit 0,
                mkS 76
                  [(0, TV.lst C.t24 l), (1, TV.v (Value.bool false)), (5, TV.ref 0 0 0),
                    (6, TV.v (Value.int IntKind.i64 v))]
                  [TO.cells
                      [TV.v (Value.bool false), TV.lst C.str (cS (Prod.fst (lfP l))), TV.v (Value.slice none 0 0),
                        TV.lst C.i64 (inI l (List.length (Prod.fst (lfP l))))]
                      false]
                  0)
        else none
    else none
else
  some
    (Exit.exit 0,
      mkS 76 [(0, TV.lst C.t24 l), (1, TV.v (Value.bool false)), (5, TV.ref 0 0 0), (6, TV.v (Value.int IntKind.i64 v))]
        [TO.cells
            [TV.v (Value.bool false), TV.lst C.str (cS (Prod.fst (lfP l))), TV.v (Value.slice none 0 0),
              TV.lst C.i64 (inI l (List.length (Prod.fst (lfP l))))]
            false]
        0) := by kernel_rfl
/-! ### The first rounds: so many keys that it is too great by the last one -/
theorem iff_exit {T B : Type} {fnl : Nat → T → Option B} (S : Nat → T) (Z : B) (K : Nat) (hin : ∀ N k, k < K → fnl (N + 1) (S k) = fnl N (S (k + 1))) (hout : ∀ N, fnl (N + 1) (S K) = some Z) : ∀ m k, k + m = K → fnl (m + 1) (S k) = some Z := by
  intro m
  induction m with
  | zero => intro k hk; obtain rfl : k = K := hk; exact hout 0
  | succ m ih => intro k hk; rw [hin (m + 1) k (by omega)]; exact ih (k + 1) (by omega)
/-- How many keys there are when it has become too great. -/
def PK (put : Nat → Nat) (n K : Nat) : Prop := K ≤ n ∧ (∀ j, j < K → put j ≤ 237) ∧ (K = n ∨ 237 < put K)
theorem pk_ex (put : Nat → Nat) (n : Nat) : ∃ K, PK put n K := by
  have key : ∀ m : Nat, m ≤ n → (∃ K, PK put n K) ∨ ∀ j, j < m → put j ≤ 237 := by
    intro m
    induction m with
    | zero => intro _; exact .inr fun j hj => by omega
    | succ m ih =>
      intro hm
      rcases ih (by omega) with h | h
      · exact .inl h
      · by_cases hp : put m ≤ 237
        · refine .inr fun j hj => ?_
          by_cases e : j = m
          · subst e; exact hp
          · exact h j (by omega)
        · exact .inl ⟨m, by omega, h, .inr (by omega)⟩
  rcases key n (Nat.le_refl n) with h | h
  · exact h
  · exact ⟨n, Nat.le_refl n, h, .inl rfl⟩
def putL (l : List R24) (k : Nat) : Nat := (nL (lfP (l.take k)).1 (lfP (l.take k)).2).put.size
def putI (l : List R24) (k : Nat) : Nat := (nI (lfP (l.take k)).1 (inI (l.take k) (lfP (l.take k)).1.length)).put.size
theorem emp_cases (ks : List ByteArray) : ks = [] ∨ 0 < ks.length := by cases ks with
  | nil => exact .inl rfl
  | cons => exact .inr (by simp)
theorem lfP_nil2 {l : List R24} (h : (lfP l).1 = []) : (lfP l).2 = [] := by
  have := (lf_okB l).1
  rw [h] at this
  exact List.eq_nil_of_length_eq_zero this
theorem okE : N3.Ok ⟨true, [], [], []⟩ := (smE true [] (by simp)).1
theorem okE2 : N3.Ok ⟨false, [], [], [5]⟩ := (smE false [5] (by simp)).1
theorem rounds4t (lp : Lp U) (l : List R24) (a K : Nat) (h : PK (putL l) l.length K) (hl : K ≤ 1000) : fnLoop X (E4 sEiT (sParL2 a)) an4 lp Try.f4 0 (K + 1) (g4t_S0 l 0) = some (.exit 0, g4t_S0 l K) := by
  obtain ⟨h1, h2, h3⟩ := h
  refine iff_exit (fnl := fnLoop X (E4 sEiT (sParL2 a)) an4 lp Try.f4 0) (fun k => g4t_S0 l k) _ K (fun N k hk => ?_) (fun N => ?_) K 0 (Nat.zero_add _)
  · have hp := h2 k hk
    refine (g4t_e0 lp l a N k).trans ?_
    rw [decide_eq_true (by omega), cond_true, cut_t (by omega), Option.bind_some, if_pos rfl, wr (a := (k : Int) + 1) (by omega) (by omega)]
    rcases emp_cases (lfP (l.take k)).1 with he | he
    · rw [he, List.isEmpty_nil, cond_true, if_pos okE]
      rfl
    · have hb := lf_okB (l.take k)
      have hp : (N3.put ⟨true, (lfP (l.take k)).1, (lfP (l.take k)).2, []⟩).size ≤ 237 := hp
      rw [emp_of he, cond_false, cS_eq he, cV_eq (by rw [hb.1]; exact he), if_pos hb.sm.1.1, decide_eq_true (by omega), cond_true]
      rfl
  · refine (g4t_e0 lp l a N K).trans ?_
    rcases h3 with h3 | h3
    · rw [decide_eq_false (by omega)]
      rfl
    · by_cases hK : K = l.length
      · rw [decide_eq_false (by omega)]
        rfl
      · have he : 0 < (lfP (l.take K)).1.length := by
          rcases emp_cases (lfP (l.take K)).1 with he | he
          · exfalso
            unfold putL at h3
            rw [he, lfP_nil2 he] at h3
            have := put_size (nL [] [])
            have h2 := hd_L (ks := []) (vs := []) (by simp)
            have h4 : (nL [] []).szs.sum = 0 := rfl
            omega
          · exact he
        have hb := lf_okB (l.take K)
        have h3 : 237 < (N3.put ⟨true, (lfP (l.take K)).1, (lfP (l.take K)).2, []⟩).size := h3
        rw [decide_eq_true (by omega), cond_true, cut_t (by omega), Option.bind_some, if_pos rfl, emp_of he, cond_false, cS_eq he, cV_eq (by rw [hb.1]; exact he), if_pos hb.sm.1.1, decide_eq_false (by omega), cond_false]
        rfl
theorem inI0 (l : List R24) : inI l 0 = [5] := rfl
theorem rounds4f (lp : Lp U) (l : List R24) (a K : Nat) (h : PK (putI l) l.length K) (hl : K ≤ 1000) : fnLoop X (E4 sEiF (sParI2 a)) an4 lp Try.f4 0 (K + 1) (S4f l 0) = some (.exit 0, S4f l K) := by
  obtain ⟨h1, h2, h3⟩ := h
  have p5 : (N3.put ⟨false, [], [], [5]⟩).size ≤ 237 := by
    have := put_size (N3.mk false [] [] [5])
    have h2 := hd_I (ks := []) (ki := [5]) (by simp) (by decide) (by decide)
    have h3 : (N3.mk false [] [] [5]).szs.sum = 0 := rfl
    have h2 : (N3.mk false [] [] [5]).hd.size ≤ 3 := h2.1
    omega
  refine iff_exit (fnl := fnLoop X (E4 sEiF (sParI2 a)) an4 lp Try.f4 0) (fun k => S4f l k) _ K (fun N k hk => ?_) (fun N => ?_) K 0 (Nat.zero_add _)
  · have hp := h2 k hk
    refine (r4f lp N l a k).trans ?_
    rw [decide_eq_true (by omega), cond_true, cut_t (by omega), Option.bind_some, if_pos rfl, wr (a := (k : Int) + 1) (by omega) (by omega)]
    rcases emp_cases (lfP (l.take k)).1 with he | he
    · rw [he, List.isEmpty_nil, cond_true, inI0, if_pos okE2, decide_eq_true (by omega)]
      rfl
    · have hb := li_okB (l.take k)
      have hp : (N3.put ⟨false, (lfP (l.take k)).1, [], inI (l.take k) (lfP (l.take k)).1.length⟩).size ≤ 237 := hp
      rw [emp_of he, cond_false, cS_eq he, if_pos hb.sm.1.1, decide_eq_true (by omega), cond_true]
      rfl
  · refine (r4f lp N l a K).trans ?_
    rcases h3 with h3 | h3
    · rw [decide_eq_false (by omega)]
      rfl
    · by_cases hK : K = l.length
      · rw [decide_eq_false (by omega)]
        rfl
      · have he : 0 < (lfP (l.take K)).1.length := by
          rcases emp_cases (lfP (l.take K)).1 with he | he
          · exfalso
            unfold putI at h3
            rw [he] at h3
            have h3 : 237 < (N3.put ⟨false, [], [], [5]⟩).size := h3
            omega
          · exact he
        have hb := li_okB (l.take K)
        have h3 : 237 < (N3.put ⟨false, (lfP (l.take K)).1, [], inI (l.take K) (lfP (l.take K)).1.length⟩).size := h3
        rw [decide_eq_true (by omega), cond_true, cut_t (by omega), Option.bind_some, if_pos rfl, emp_of he, cond_false, cS_eq he, if_pos hb.sm.1.1, decide_eq_false (by omega), cond_false]
        rfl
def dl4t (s : TS U) : Option (Bool × List ByteArray × List R33 × List R24 × Bool × Int) := match told s 76 [0, 1, 5, 6] 0, s.objs with
  | some [a0, a1, a2, a3], [o0] =>
    match o0 with
    | .cells [q0, q1, q2, q3] false =>
      match q0 with
      | .v (.bool b0) =>
        match q1 with
        | .lst .str ks =>
          match q2 with
          | .lst .t33 vs =>
            match q3 with
            | .v (.slice none 0 0) =>
              match a0 with
              | .lst .t24 l =>
                match a1 with
                | .v (.bool b) =>
                  match a2 with
                  | .ref 0 0 0 =>
                    match a3 with
                    | .v (.int .i64 i) =>
                      some (b0, ks, vs, l, b, i)
                    | _ => none
                  | _ => none
                | _ => none
              | _ => none
            | _ => none
          | _ => none
        | _ => none
      | _ => none
    | _ => none
  | _, _ => none
theorem dl4t_ok {s : TS U} {b0 : Bool} {ks : List ByteArray} {vs : List R33} {l : List R24} {b : Bool} {i : Int} (h : dl4t s = some (b0, ks, vs, l, b, i)) : s = mkS (U := U) 76 ([0, 1, 5, 6].zip ([.lst .t24 l, .v (.bool b), .ref 0 0 0, .v (.int .i64 i)] : List (TV U))) ([.cells [.v (.bool b0), .lst .str ks, .lst .t33 vs, .v (.slice none 0 0)] false] : List (TO U)) 0 := by
  unfold dl4t at h
  split at h <;> try (cases h; done)
  rename_i ht ho
  have hs := told_ok ht
  rw [ho] at hs
  repeat' split at h
  all_goals first | (cases h; done) | (cases h; exact hs)
def dl4f (s : TS U) : Option (Bool × List ByteArray × List Int × List R24 × Bool × Int) := match told s 76 [0, 1, 5, 6] 0, s.objs with
  | some [a0, a1, a2, a3], [o0] =>
    match o0 with
    | .cells [q0, q1, q2, q3] false =>
      match q0 with
      | .v (.bool b0) =>
        match q1 with
        | .lst .str ks =>
          match q2 with
          | .v (.slice none 0 0) =>
            match q3 with
            | .lst .i64 ki =>
              match a0 with
              | .lst .t24 l =>
                match a1 with
                | .v (.bool b) =>
                  match a2 with
                  | .ref 0 0 0 =>
                    match a3 with
                    | .v (.int .i64 i) =>
                      some (b0, ks, ki, l, b, i)
                    | _ => none
                  | _ => none
                | _ => none
              | _ => none
            | _ => none
          | _ => none
        | _ => none
      | _ => none
    | _ => none
  | _, _ => none
theorem dl4f_ok {s : TS U} {b0 : Bool} {ks : List ByteArray} {ki : List Int} {l : List R24} {b : Bool} {i : Int} (h : dl4f s = some (b0, ks, ki, l, b, i)) : s = mkS (U := U) 76 ([0, 1, 5, 6].zip ([.lst .t24 l, .v (.bool b), .ref 0 0 0, .v (.int .i64 i)] : List (TV U))) ([.cells [.v (.bool b0), .lst .str ks, .v (.slice none 0 0), .lst .i64 ki] false] : List (TO U)) 0 := by
  unfold dl4f at h
  split at h <;> try (cases h; done)
  rename_i ht ho
  have hs := told_ok ht
  rw [ho] at hs
  repeat' split at h
  all_goals first | (cases h; done) | (cases h; exact hs)
def P4t (l0 : List R24) (K : Nat) (b0 b : Bool) (ks : List ByteArray) (vs : List R33) (l : List R24) (i : Int) : Prop := (PK (putL l0) l0.length K ∧ K ≤ 1000) ∧ l = l0 ∧ b0 = true ∧ b = true ∧ ks = cS (lfP l).1 ∧ vs = cV (lfP l).2 ∧ i = 0
noncomputable instance (l0 : List R24) (K : Nat) (b0 b : Bool) (ks : List ByteArray) (vs : List R33) (l : List R24) (i : Int) : Decidable (P4t l0 K b0 b ks vs l i) := Classical.propDecidable _
def P4f (l0 : List R24) (K : Nat) (b0 b : Bool) (ks : List ByteArray) (ki : List Int) (l : List R24) (i : Int) : Prop := (PK (putI l0) l0.length K ∧ K ≤ 1000) ∧ l = l0 ∧ b0 = false ∧ b = false ∧ ks = cS (lfP l).1 ∧ ki = inI l (lfP l).1.length ∧ i = 0
noncomputable instance (l0 : List R24) (K : Nat) (b0 b : Bool) (ks : List ByteArray) (ki : List Int) (l : List R24) (i : Int) : Decidable (P4f l0 K b0 b ks ki l i) := Classical.propDecidable _
noncomputable def lc4t (l : List R24) (K : Nat) : LC U := .of dl4t (fun (b0, ks, vs, l', b, i) => P4t l K b0 b ks vs l' i) (.exit 0) fun _ => g4t_S0 l K
noncomputable def lc4f (l : List R24) (K : Nat) : LC U := .of dl4f (fun (b0, ks, ki, l', b, i) => P4f l K b0 b ks ki l' i) (.exit 0) fun _ => S4f l K
noncomputable def lp4t (l : List R24) (K a : Nat) : Lp U := lpL [(0, lc4t l K), (2, LC.unr (X := X) (E4_ok sEiT_ok (sParL2_ok a)) an4 Try.f4 2 4)]
noncomputable def lp4f (l : List R24) (K a : Nat) : Lp U := lpL [(0, lc4f l K), (2, LC.unr (X := X) (E4_ok sEiF_ok (sParI2_ok a)) an4 Try.f4 2 4)]
theorem lp4t_ok (l : List R24) (K a : Nat) : ∀ c, Try.f4.body = some c → LpOk X (E4 sEiT (sParL2 a)) an4 (lp4t l K a) (loops c 0) := lpL_ok (by kernel_rfl) fun b L hm st p hs => by
  cases hm with
  | head =>
    obtain ⟨⟨b0, ks, vs, l', b, i⟩, hx, ⟨⟨h, hl⟩, rfl, rfl, rfl, rfl, rfl, rfl⟩, rfl⟩ := LC.of_some hs
    obtain rfl := dl4t_ok hx
    exact ⟨_, rounds4t _ _ a K h hl⟩
  | tail _ hm => cases hm with
    | head => exact unr_ok (by kernel_rfl) hs
    | tail _ h => cases h
theorem lp4f_ok (l : List R24) (K a : Nat) : ∀ c, Try.f4.body = some c → LpOk X (E4 sEiF (sParI2 a)) an4 (lp4f l K a) (loops c 0) := lpL_ok (by kernel_rfl) fun b L hm st p hs => by
  cases hm with
  | head =>
    obtain ⟨⟨b0, ks, ki, l', b, i⟩, hx, ⟨⟨h, hl⟩, rfl, rfl, rfl, rfl, rfl, rfl⟩, rfl⟩ := LC.of_some hs
    obtain rfl := dl4f_ok hx
    exact ⟨_, rounds4f _ _ a K h hl⟩
  | tail _ hm => cases hm with
    | head => exact unr_ok (by kernel_rfl) hs
    | tail _ h => cases h
theorem e4t (l : List
  R24) (K : Nat) (a : Nat) : (evFn X (E4 sEiT (sParL2 a)) an4 (lp4t l K a) Try.f4 []
  [TV.lst C.t24 l, TV.v (Value.bool true)] fun (o : List (TO (Cx.U X))) (v : TV (Cx.U X)) => some (o, v)) =
  if true = true then
  bif List.isEmpty (Prod.fst (lfP l)) then
    if N3.Ok { L := true, K := [], V := [], I := [] } then some ([], TV.v (Value.bool true)) else none
  else
    if N3.Ok { L := true, K := cS (Prod.fst (lfP l)), V := cV (Prod.snd (lfP l)), I := [] } then
      bif
          decide
            ((↑(ByteArray.size
                    (N3.put { L := true, K := cS (Prod.fst (lfP l)), V := cV (Prod.snd (lfP l)), I := [] })) :
                Int) ≤
              237) then
        some ([], TV.v (Value.bool true))
      else
        if P4t l K true true (cS (Prod.fst (lfP l))) (cV (Prod.snd (lfP l))) l 0 then
          Option.bind (cutI l none (some (↑K : Int))) fun (ys : List (Univ.T (Cx.U X) C.t24)) =>
            if true = true then
              bif List.isEmpty (Prod.fst (lfP ys)) then none
              else
                if true = true ∧ PyeL (cS (Prod.fst (lfP ys))) (cV (Prod.snd (lfP ys))) a then
                  if
                      N3.Ok
                        { L := true, K := cS (List.take a (cS (Prod.fst (lfP ys)))),
                          V := cV (List.take a (cV (Prod.snd (lfP ys)))), I := [] } then
                    bif
                        decide
                          (237 <
                            (↑(ByteArray.size
                                  (N3.put
                                    { L := true, K := cS (List.take a (cS (Prod.fst (lfP ys)))),
                                      V := cV (List.take a (cV (Prod.snd (lfP ys)))), I := [] })) :
                              Int)) then
                      some ([], TV.v (Value.bool false))
                    else
                      if
                          N3.Ok
                            { L := true, K := cS (List.drop a (cS (Prod.fst (lfP ys)))),
                              V := cV (List.drop a (cV (Prod.snd (lfP ys)))), I := [] } then
                        bif
                            decide
                              (237 <
                                (↑(ByteArray.size
                                      (N3.put
                                        { L := true, K := cS (List.drop a (cS (Prod.fst (lfP ys)))),
                                          V := cV (List.drop a (cV (Prod.snd (lfP ys)))), I := [] })) :
                                  Int)) then
                          some ([], TV.v (Value.bool false))
                        else
                          if N3.Ok { L := true, K := [], V := [], I := [] } then
                            if N3.Ok { L := true, K := cS (Prod.fst (lfP l)), V := cV (Prod.snd (lfP l)), I := [] } then
                              if
                                  N3.Ok
                                    { L := true, K := cS (Prod.fst (lfP l)), V := cV (Prod.snd (lfP l)), I := [] } then
                                some
                                  ([],
                                    TV.v
                                      (Value.bool
                                        (decide
                                            ((↑(ByteArray.size
                                                    (N3.put
                                                      { L := true, K := cS (Prod.fst (lfP l)),
                                                        V := cV (Prod.snd (lfP l)), I := [] })) :
                                                Int) <
                                              79) ==
                                          decide
                                            ((↑(ByteArray.size
                                                    (N3.put
                                                      { L := true, K := cS (Prod.fst (lfP l)),
                                                        V := cV (Prod.snd (lfP l)), I := [] })) :
                                                Int) <
                                              79))))
                              else none
                            else none
                          else none
                      else none
                  else none
                else none
            else none
        else none
    else none
else none := by kernel_rfl
theorem e4f (l : List
  R24) (K : Nat) (a : Nat) : (evFn X (E4 sEiF (sParI2 a)) an4 (lp4f l K a) Try.f4 []
  [TV.lst C.t24 l, TV.v (Value.bool false)] fun (o : List (TO (Cx.U X))) (v : TV (Cx.U X)) => some (o, v)) =
  if false = false then
  bif List.isEmpty (Prod.fst (lfP l)) then
    if N3.Ok { L := false, K := [], V := [], I := inI l 0 } then
      bif decide ((↑(ByteArray.size (N3.put { L := false, K := [], V := [], I := inI l 0 })) : Int) ≤ 237) then
        some ([], TV.v (Value.bool true))
      else none
    else none
  else
    if N3.Ok { L := false, K := cS (Prod.fst (lfP l)), V := [], I := inI l (List.length (Prod.fst (lfP l))) } then
      bif
          decide
            ((↑(ByteArray.size
                    (N3.put
                      { L := false, K := cS (Prod.fst (lfP l)), V := [],
                        I := inI l (List.length (Prod.fst (lfP l))) })) :
                Int) ≤
              237) then
        some ([], TV.v (Value.bool true))
      else
        if P4f l K false false (cS (Prod.fst (lfP l))) (inI l (List.length (Prod.fst (lfP l)))) l 0 then
          Option.bind (cutI l none (some (↑K : Int))) fun (ys : List (Univ.T (Cx.U X) C.t24)) =>
            if false = false then
              bif List.isEmpty (Prod.fst (lfP ys)) then none
              else
                if false = false ∧ PyeI (cS (Prod.fst (lfP ys))) (inI ys (List.length (Prod.fst (lfP ys)))) a then
                  if
                      N3.Ok
                        { L := false, K := cS (List.take a (cS (Prod.fst (lfP ys)))), V := [],
                          I := cI (List.take (a + 1) (inI ys (List.length (Prod.fst (lfP ys))))) } then
                    bif
                        decide
                          (237 <
                            (↑(ByteArray.size
                                  (N3.put
                                    { L := false, K := cS (List.take a (cS (Prod.fst (lfP ys)))), V := [],
                                      I := cI (List.take (a + 1) (inI ys (List.length (Prod.fst (lfP ys))))) })) :
                              Int)) then
                      some ([], TV.v (Value.bool false))
                    else
                      if
                          N3.Ok
                            { L := false, K := cS (List.drop (a + 1) (cS (Prod.fst (lfP ys)))), V := [],
                              I := cI (List.drop (a + 1) (inI ys (List.length (Prod.fst (lfP ys))))) } then
                        bif
                            decide
                              (237 <
                                (↑(ByteArray.size
                                      (N3.put
                                        { L := false, K := cS (List.drop (a + 1) (cS (Prod.fst (lfP ys)))), V := [],
                                          I := cI (List.drop (a + 1) (inI ys (List.length (Prod.fst (lfP ys))))) })) :
                                  Int)) then
                          some ([], TV.v (Value.bool false))
                        else
                          if N3.Ok { L := true, K := [], V := [], I := [] } then
                            if
                                N3.Ok
                                  { L := false, K := cS (Prod.fst (lfP l)), V := [],
                                    I := inI l (List.length (Prod.fst (lfP l))) } then
                              if
                                  N3.Ok
                                    { L := false, K := cS (Prod.fst (lfP l)), V := [],
                                      I := inI l (List.length (Prod.fst (lfP l))) } then
                                some
                                  ([],
                                    TV.v
                                      (Value.bool
                                        (decide
                                            ((↑(ByteArray.size
                                                    (N3.put
                                                      { L := false, K := cS (Prod.fst (lfP l)), V := [],
                                                        I := inI l (List.length (Prod.fst (lfP l))) })) :
                                                Int) <
                                              79) ==
                                          decide
                                            ((↑(ByteArray.size
                                                    (N3.put
                                                      { L := false, K := cS (Prod.fst (lfP l)), V := [],
                                                        I := inI l (List.length (Prod.fst (lfP l))) })) :
                                                Int) <
                                              79))))
                              else none
                            else none
                          else none
                      else none
                  else none
                else none
            else none
        else none
    else none
else none := by kernel_rfl
end Go.Proofs.Ytmcflglkfgnbbaa.Nd

/- Parts of a node that became too great by one key are not too great. -/
namespace Go.Proofs.Ytmcflglkfgnbbaa.Nd
open Go Go.RowKit Go.Proofs.Ytmcflglkfgnbbaa.Eng
set_option linter.unusedVariables false
set_option linter.unusedSimpArgs false
set_option maxRecDepth 20000
set_option pp.fieldNotation false
theorem sum_set_le : ∀ (z : List Int) (i : Nat) (x : Int), (∀ y ∈ z, 0 ≤ y) → 0 ≤ x → (z.set i x).sum ≤ z.sum + x
  | [], _, x, _, hx => by simp; exact hx
  | y :: z, 0, x, h, hx => by
    have := h y List.mem_cons_self
    rw [List.set_cons_zero, List.sum_cons, List.sum_cons]
    omega
  | y :: z, i + 1, x, h, hx => by
    have := sum_set_le z i x (fun w hw => h w (List.mem_cons_of_mem _ hw)) hx
    rw [List.set_cons_succ, List.sum_cons, List.sum_cons]
    omega
theorem sum_ins (z : List Int) (x : Int) (i : Int) : (insL z [x] i).sum = z.sum + x := by
  have := sum_drop_eq (z := z) i.toNat
  unfold insL
  rw [List.sum_append, List.sum_append, List.sum_singleton]
  omega
theorem map_ins {α β : Type} (f : α → β) (l : List α) (x : α) (i : Int) : (insL l [x] i).map f = insL (l.map f) [f x] i := by
  unfold insL
  rw [List.map_append, List.map_append, List.map_take, List.map_drop]
  rfl
theorem zip_ins {α β γ : Type} (f : α → β → γ) (l : List α) (m : List β) (x : α) (y : β) (i : Int) (h : l.length = m.length) : List.zipWith f (insL l [x] i) (insL m [y] i) = insL (List.zipWith f l m) [f x y] i := by
  unfold insL
  rw [List.zipWith_append (by rw [List.length_take, List.length_take, h]), List.take_zipWith, List.drop_zipWith]
  rfl
theorem zip_set {α β γ : Type} (f : α → β → γ) : ∀ (l : List α) (m : List β) (y : β) (i : Nat) (x : α), l[i]? = some x → List.zipWith f l (m.set i y) = (List.zipWith f l m).set i (f x y)
  | [], _, _, _, _, h => by simp at h
  | a :: l, [], y, i, x, h => by simp
  | a :: l, b :: m, y, 0, x, h => by
    have : a = x := by simpa using h
    subst this
    rfl
  | a :: l, b :: m, y, i + 1, x, h => by
    have := zip_set f l m y i x (by simpa using h)
    rw [List.set_cons_succ, List.zipWith_cons_cons, List.zipWith_cons_cons, List.set_cons_succ, this]
theorem szsL (ks : List ByteArray) (vs : List R33) : (nL ks vs).szs = (List.zipWith entB ks vs).map fun p => (p.size : Int) := rfl
theorem szsI (ks : List ByteArray) (ki : List Int) : (nI ks ki).szs = (List.zipWith lnkB ks (ki.drop 1)).map fun p => (p.size : Int) := rfl
/-- One key more makes a leaf greater by no more than so many bytes. -/
theorem stepL {ks : List ByteArray} {vs : List R33} (h : LfB ks vs) (z : R24) : (nL (sK ks (keyP z)) (sV ks vs (keyP z) (valP z))).szs.sum ≤ (nL ks vs).szs.sum + 115 := by
  have hs := h.sm.2
  obtain ⟨h1, h2, h3, h4⟩ := h
  have he := entB_115 (keyP_64 z) (valP_okB z)
  rw [szsL, szsL]
  rw [szsL] at hs
  unfold sK sV
  cases hi : isK ks (keyP z) with
  | true =>
    rw [cond_true, cond_true]
    have hr := isK_lt hi
    obtain ⟨x, hx⟩ : ∃ x, ks[rk ks (keyP z)]? = some x := ⟨_, List.getElem?_eq_getElem hr⟩
    have hx2 := entB_115 (h3 x (List.mem_of_getElem? hx)) (valP_okB z)
    rw [zip_set entB ks vs _ _ x hx, List.map_set]
    have := sum_set_le ((List.zipWith entB ks vs).map fun p => (p.size : Int)) (rk ks (keyP z)) ((entB x (valP z)).size : Int) (fun y hy => (hs y hy).1) (by omega)
    omega
  | false =>
    rw [cond_false, cond_false, zip_ins entB ks vs _ _ _ h1.symm, map_ins, sum_ins]
    omega
theorem zip_sum : ∀ (ks : List ByteArray) (q : List Int), ks.length = q.length → (∀ k ∈ ks, k.size ≤ 64) → (∀ n ∈ q, 0 ≤ n ∧ n ≤ 16383) → ((List.zipWith lnkB ks q).map fun p => (p.size : Int)).sum = (ks.map fun k => (1 + k.size : Int)).sum + (q.map fun n => ((numB (IntKind.u64.wrap n)).size : Int)).sum
  | [], [], _, _, _ => rfl
  | k :: ks, n :: q, hl, h1, h2 => by
    have ih := zip_sum ks q (by simpa using hl) (fun x hx => h1 x (List.mem_cons_of_mem _ hx)) (fun x hx => h2 x (List.mem_cons_of_mem _ hx))
    have hn := h2 n List.mem_cons_self
    have := (lnkB_67 (h1 k List.mem_cons_self) hn.1 hn.2).2
    rw [List.zipWith_cons_cons, List.map_cons, List.map_cons, List.map_cons, List.sum_cons, List.sum_cons, List.sum_cons, ih]
    omega
  | [], _ :: _, hl, _, _ => by simp at hl
  | _ :: _, [], hl, _, _ => by simp at hl
theorem inI_drop (l : List R24) (k : Nat) : (inI l k).drop 1 = (l.take k).map pgI := rfl
/-- The keys when one more has come. -/
theorem lfP_step {l : List R24} {k : Nat} {z : R24} (hz : l[k]? = some z) (hk : k < 40) : lfP (l.take (k + 1)) = stL (lfP (l.take k)) z := by
  unfold lfP
  rw [List.take_take, List.take_take, Nat.min_eq_right (by omega), Nat.min_eq_right (by omega), List.take_add_one, hz, Option.toList_some, List.foldl_append]
  rfl
theorem lfP_40 {l : List R24} {k : Nat} (h : 40 ≤ k) : lfP (l.take k) = lfP l := by
  unfold lfP
  rw [List.take_take, Nat.min_eq_left h]
theorem sK_two (ks : List ByteArray) (k : ByteArray) : isK ks k = true ∧ sK ks k = ks ∨ isK ks k = false ∧ sK ks k = insL ks [k] (rk ks k) ∧ (sK ks k).length = ks.length + 1 := by
  unfold sK
  cases hi : isK ks k with
  | true => exact .inl ⟨rfl, rfl⟩
  | false =>
    refine .inr ⟨rfl, rfl, ?_⟩
    rw [cond_false]
    unfold insL
    have := rk_le ks k
    rw [List.length_append, List.length_append, List.length_take, List.length_drop, Int.toNat_natCast, List.length_singleton]
    omega
theorem stepI {l : List R24} {k : Nat} {z : R24} (hz : l[k]? = some z) (hk : k < 40) : (nI (lfP (l.take (k + 1))).1 (inI (l.take (k + 1)) (lfP (l.take (k + 1))).1.length)).szs.sum ≤ (nI (lfP (l.take k)).1 (inI (l.take k) (lfP (l.take k)).1.length)).szs.sum + 67 := by
  have hlk := lfP_len (l.take k)
  have hlk1 := lfP_len (l.take (k + 1))
  rw [List.length_take] at hlk hlk1
  have hb := li_okB (l.take k)
  have hb1 := li_okB (l.take (k + 1))
  have hst := lfP_step hz hk
  have e1 : (lfP (l.take (k + 1))).1 = sK (lfP (l.take k)).1 (keyP z) := congrArg Prod.fst hst
  rw [szsI, szsI, inI_drop, inI_drop]
  obtain ⟨a1, a2, a3, a4⟩ := hb
  obtain ⟨b1, b2, b3, b4⟩ := hb1
  have q1 : ∀ n ∈ ((l.take k).take (lfP (l.take k)).1.length).map pgI, 0 ≤ n ∧ n ≤ 16383 := fun n hn => by
    rw [List.mem_map] at hn
    obtain ⟨y, _, rfl⟩ := hn
    exact pgI_bdB y
  have q2 : ∀ n ∈ ((l.take (k + 1)).take (lfP (l.take (k + 1))).1.length).map pgI, 0 ≤ n ∧ n ≤ 16383 := fun n hn => by
    rw [List.mem_map] at hn
    obtain ⟨y, _, rfl⟩ := hn
    exact pgI_bdB y
  rw [zip_sum _ _ (by rw [List.length_map, List.length_take, List.length_take]; omega) a3 q1, zip_sum _ _ (by rw [List.length_map, List.length_take, List.length_take]; omega) b3 q2]
  have t1 : (l.take k).take (lfP (l.take k)).1.length = l.take (lfP (l.take k)).1.length := by rw [List.take_take, Nat.min_eq_left (by omega)]
  have t2 : (l.take (k + 1)).take (lfP (l.take (k + 1))).1.length = l.take (lfP (l.take (k + 1))).1.length := by rw [List.take_take, Nat.min_eq_left (by omega)]
  rw [t1, t2]
  generalize hk0 : (lfP (l.take k)).1 = ks at *
  rw [e1]
  rcases sK_two ks (keyP z) with ⟨_, e⟩ | ⟨_, e, e'⟩
  · rw [e]
    omega
  · rw [e', e, map_ins, sum_ins, List.take_add_one]
    have := keyP_64 z
    cases hg : l[ks.length]? with
    | none =>
      rw [Option.toList_none, List.append_nil]
      omega
    | some w =>
      have h2 := pgI_bdB w
      have h3 := numB_2 h2.1 (by omega)
      rw [Option.toList_some, List.map_append, List.map_append, List.sum_append]
      simp only [List.map_cons, List.map_nil, List.sum_cons, List.sum_nil]
      omega
theorem putL0 : (nL [] []).put.size ≤ 237 := by
  have := put_size (nL [] [])
  have h2 := hd_L (ks := []) (vs := []) (by simp)
  have h4 : (nL [] []).szs.sum = 0 := rfl
  omega
theorem putI0 : (nI [] [5]).put.size ≤ 237 := by
  have := put_size (nI [] [5])
  have h2 := (hd_I (ks := []) (ki := [5]) (by simp) (by decide) (by decide)).1
  have h4 : (nI [] [5]).szs.sum = 0 := rfl
  omega
theorem LfB.cut {ks : List ByteArray} {vs : List R33} (h : LfB ks vs) (a : Nat) : LfB (ks.take a) (vs.take a) ∧ LfB (ks.drop a) (vs.drop a) := by
  obtain ⟨h1, h2, h3, h4⟩ := h
  refine ⟨⟨by rw [List.length_take, List.length_take, h1], by rw [List.length_take]; omega, fun k hk => h3 k (List.mem_of_mem_take hk), fun v hv => h4 v (List.mem_of_mem_take hv)⟩, by rw [List.length_drop, List.length_drop, h1], by rw [List.length_drop]; omega, fun k hk => h3 k (List.mem_of_mem_drop hk), fun v hv => h4 v (List.mem_of_mem_drop hv)⟩
theorem LiB.cut {ks : List ByteArray} {ki : List Int} (h : LiB ks ki) {a : Nat} (ha : a + 1 ≤ ks.length) : LiB (ks.take a) (ki.take (a + 1)) ∧ LiB (ks.drop (a + 1)) (ki.drop (a + 1)) := by
  obtain ⟨h1, h2, h3, h4⟩ := h
  refine ⟨⟨by rw [List.length_take, List.length_take]; omega, by rw [List.length_take]; omega, fun k hk => h3 k (List.mem_of_mem_take hk), fun v hv => h4 v (List.mem_of_mem_take hv)⟩, by rw [List.length_drop, List.length_drop]; omega, by rw [List.length_drop]; omega, fun k hk => h3 k (List.mem_of_mem_drop hk), fun v hv => h4 v (List.mem_of_mem_drop hv)⟩
theorem szs_cutL (ks : List ByteArray) (vs : List R33) (a : Nat) : (nL (ks.take a) (vs.take a)).szs = (nL ks vs).szs.take a ∧ (nL (ks.drop a) (vs.drop a)).szs = (nL ks vs).szs.drop a := by
  rw [szsL, szsL, szsL, ← List.map_take, ← List.map_drop, List.take_zipWith, List.drop_zipWith]
  exact ⟨rfl, rfl⟩
theorem szs_cutI (ks : List ByteArray) (ki : List Int) (a : Nat) : (nI (ks.take a) (ki.take (a + 1))).szs = (nI ks ki).szs.take a ∧ (nI (ks.drop (a + 1)) (ki.drop (a + 1))).szs = (nI ks ki).szs.drop (a + 1) := by
  rw [szsI, szsI, szsI, ← List.map_take, ← List.map_drop, List.take_zipWith, List.drop_zipWith, List.drop_take, List.drop_drop, List.drop_drop]
  exact ⟨rfl, by rw [Nat.add_comm 1 (a + 1)]⟩
/-- Both parts of a leaf of not too many bytes are small. -/
theorem partsL {ks : List ByteArray} {vs : List R33} (h : LfB ks vs) {a : Nat} (hs : 237 < (nL ks vs).put.size) (hT : (nL ks vs).szs.sum ≤ 351) (ha : ∀ j, 1 ≤ j → j + 1 ≤ ks.length → costP (nL ks vs).szs 0 a ≤ costP (nL ks vs).szs 0 j) : (nL (ks.take a) (vs.take a)).put.size ≤ 237 ∧ (nL (ks.drop a) (vs.drop a)).put.size ≤ 237 := by
  obtain ⟨h1, h2⟩ := h.sm
  have hl : (nL ks vs).szs.length = ks.length := szs_len h1.1
  have hp := put_size (nL ks vs)
  have hh := hd_L (ks := ks) (vs := vs) (by have := h.2.1; omega)
  have hb := sum_le (z := (nL ks vs).szs) (B := 115) fun x hx => (h2 x hx).2
  obtain ⟨j, j1, j2, j3⟩ := mid_cost (z := (nL ks vs).szs) (fun x hx => (h2 x hx).1) (B := 115) (T := 351) (fun x hx => (h2 x hx).2) hT 0 (by omega) (by omega)
  have hc := ha j j1 (by omega)
  obtain ⟨s1, s2⟩ := szs_cutL ks vs a
  have p1 := put_size (nL (ks.take a) (vs.take a))
  have p2 := put_size (nL (ks.drop a) (vs.drop a))
  have k1 := hd_L (ks := ks.take a) (vs := vs.take a) (by rw [List.length_take]; have := h.2.1; omega)
  have k2 := hd_L (ks := ks.drop a) (vs := vs.drop a) (by rw [List.length_drop]; have := h.2.1; omega)
  have hcost : costP (nL ks vs).szs 0 a = max ((nL ks vs).szs.take a).sum ((nL ks vs).szs.drop a).sum := rfl
  rw [s1] at p1
  rw [s2] at p2
  omega
theorem partsI {ks : List ByteArray} {ki : List Int} (h : LiB ks ki) {a : Nat} (h2a : a + 1 ≤ ks.length) (hs : 237 < (nI ks ki).put.size) (hT : (nI ks ki).szs.sum ≤ 304) (ha : ∀ j, 1 ≤ j → j + 1 ≤ ks.length → costP (nI ks ki).szs 1 a ≤ costP (nI ks ki).szs 1 j) : (nI (ks.take a) (ki.take (a + 1))).put.size ≤ 237 ∧ (nI (ks.drop (a + 1)) (ki.drop (a + 1))).put.size ≤ 237 := by
  obtain ⟨h1, h2⟩ := h.sm
  have hl : (nI ks ki).szs.length = ks.length := szs_len h1.1
  have hp := put_size (nI ks ki)
  have hh := h.hd
  have hb := sum_le (z := (nI ks ki).szs) (B := 67) fun x hx => (h2 x hx).2
  obtain ⟨j, j1, j2, j3⟩ := mid_cost (z := (nI ks ki).szs) (fun x hx => (h2 x hx).1) (B := 67) (T := 304) (fun x hx => (h2 x hx).2) hT 1 (by omega) (by omega)
  have hc := ha j j1 (by omega)
  obtain ⟨s1, s2⟩ := szs_cutI ks ki a
  have p1 := put_size (nI (ks.take a) (ki.take (a + 1)))
  have p2 := put_size (nI (ks.drop (a + 1)) (ki.drop (a + 1)))
  obtain ⟨c1, c2⟩ := h.cut h2a
  have k1 := c1.hd
  have k2 := c2.hd
  have hcost : costP (nI ks ki).szs 1 a = max ((nI ks ki).szs.take a).sum ((nI ks ki).szs.drop (a + 1)).sum := rfl
  rw [s1] at p1
  rw [s2] at p2
  omega
/-- When it has become too great: by how much. -/
theorem bigL {l : List R24} (hs : 237 < (nL (lfP l).1 (lfP l).2).put.size) : ∃ K, (PK (putL l) l.length K ∧ K ≤ 1000) ∧ 237 < putL l K ∧ (nL (lfP (l.take K)).1 (lfP (l.take K)).2).szs.sum ≤ 351 := by
  obtain ⟨K, h1, h2, h3⟩ := pk_ex (putL l) l.length
  have hK : K ≤ 40 := by
    by_cases e : K ≤ 40
    · exact e
    · exfalso
      have := h2 40 (by omega)
      unfold putL at this
      rw [lfP_40 (Nat.le_refl 40)] at this
      omega
  have hp : 237 < putL l K := by
    rcases h3 with h3 | h3
    · unfold putL
      rw [h3, List.take_length]
      exact hs
    · exact h3
  have hK0 : K ≠ 0 := by
    rintro rfl
    have : putL l 0 = (nL [] []).put.size := rfl
    have := putL0
    omega
  obtain ⟨k, rfl⟩ : ∃ k, K = k + 1 := ⟨K - 1, by omega⟩
  obtain ⟨z, hz⟩ : ∃ z, l[k]? = some z := ⟨_, List.getElem?_eq_getElem (by omega)⟩
  have hprev := h2 k (by omega)
  have hb := lf_okB (l.take k)
  refine ⟨k + 1, ⟨⟨h1, h2, h3⟩, by omega⟩, hp, ?_⟩
  have hst := stepL hb z
  rw [lfP_step hz (by omega)]
  have e : stL (lfP (l.take k)) z = (sK (lfP (l.take k)).1 (keyP z), sV (lfP (l.take k)).1 (lfP (l.take k)).2 (keyP z) (valP z)) := rfl
  rw [e]
  dsimp only
  unfold putL at hprev
  have hps := put_size (nL (lfP (l.take k)).1 (lfP (l.take k)).2)
  have hh := hd_L (ks := (lfP (l.take k)).1) (vs := (lfP (l.take k)).2) (by have := hb.2.1; omega)
  omega
theorem bigI {l : List R24} (hs : 237 < (nI (lfP l).1 (inI l (lfP l).1.length)).put.size) : ∃ K, (PK (putI l) l.length K ∧ K ≤ 1000) ∧ 237 < putI l K ∧ (nI (lfP (l.take K)).1 (inI (l.take K) (lfP (l.take K)).1.length)).szs.sum ≤ 304 := by
  obtain ⟨K, h1, h2, h3⟩ := pk_ex (putI l) l.length
  have hK : K ≤ 40 := by
    by_cases e : K ≤ 40
    · exact e
    · exfalso
      have := h2 40 (by omega)
      unfold putI at this
      have hle := (li_okB l).2.1
      have e2 : inI (l.take 40) (lfP l).1.length = inI l (lfP l).1.length := by
        unfold inI
        rw [List.take_take, Nat.min_eq_left hle]
      rw [lfP_40 (Nat.le_refl 40), e2] at this
      omega
  have hp : 237 < putI l K := by
    rcases h3 with h3 | h3
    · unfold putI
      rw [h3, List.take_length]
      exact hs
    · exact h3
  have hK0 : K ≠ 0 := by
    rintro rfl
    have : putI l 0 = (nI [] [5]).put.size := rfl
    have := putI0
    omega
  obtain ⟨k, rfl⟩ : ∃ k, K = k + 1 := ⟨K - 1, by omega⟩
  obtain ⟨z, hz⟩ : ∃ z, l[k]? = some z := ⟨_, List.getElem?_eq_getElem (by omega)⟩
  have hprev := h2 k (by omega)
  refine ⟨k + 1, ⟨⟨h1, h2, h3⟩, by omega⟩, hp, ?_⟩
  have hst := stepI hz (by omega)
  unfold putI at hprev
  have hps := put_size (nI (lfP (l.take k)).1 (inI (l.take k) (lfP (l.take k)).1.length))
  omega
end Go.Proofs.Ytmcflglkfgnbbaa.Nd

/- Parts of a node that became too great: the law's function is true, for each input. -/
namespace Go.Proofs.Ytmcflglkfgnbbaa.Nd
open Go Go.RowKit Go.Proofs.Ytmcflglkfgnbbaa.Eng
set_option linter.unusedVariables false
set_option linter.unusedSimpArgs false
set_option maxRecDepth 20000
set_option pp.fieldNotation false
noncomputable def sLaw4 (l : List R24) (b : Bool) : Spc U := .of d18 (P5 l b) (fun _ => []) fun _ => .v (.bool true)
theorem beq_selfB (b : Bool) : (b == b) = true := by cases b <;> rfl
theorem sLaw4T (l : List R24) : SpecOk Try.prog 4 (sLaw4 l true) := by
  by_cases hs : 237 < (nL (lfP l).1 (lfP l).2).put.size
  · obtain ⟨K, hK, hp, hT⟩ := bigL hs
    have hbK := lf_okB (l.take K)
    obtain ⟨a, hpy, hmin⟩ := ptL hbK hp
    refine fn_ok X_ok mixed (E4_ok sEiT_ok (sParL2_ok a)) an4 (lp4t l K a) Try.func4 (by kernel_rfl) (by kernel_rfl) (lp4t_ok l K a) fun objs args x hx hp => ?_
    obtain rfl : x = (l, true) := hp
    obtain ⟨rfl, rfl⟩ := d18_ok hx
    have hb := lf_okB l
    have hpy' := hpy
    obtain ⟨p1, p2, p3, p4, p5⟩ := hpy'
    have h0 : 0 < (lfP l).1.length := by
      rcases emp_cases (lfP l).1 with he | he
      · exfalso
        rw [he, lfP_nil2 he] at hs
        have := putL0
        omega
      · exact he
    have h0K : 0 < (lfP (l.take K)).1.length := by omega
    have hv := hb.1
    have hvK := hbK.1
    obtain ⟨c1, c2⟩ := hbK.cut a
    obtain ⟨d1, d2⟩ := partsL hbK hp hT hmin
    have hle : K ≤ l.length := hK.1.1
    have e := e4t l K a
    rw [cut_t hle] at e
    simp only [Option.bind_some] at e
    rw [emp_of h0, emp_of h0K, cS_eq h0, cV_eq (l := (lfP l).2) (by omega), cS_eq h0K, cV_eq (l := (lfP (l.take K)).2) (by omega),
      cS_eq (l := (lfP (l.take K)).1.take a) (by rw [List.length_take]; omega), cV_eq (l := (lfP (l.take K)).2.take a) (by rw [List.length_take]; omega),
      cS_eq (l := (lfP (l.take K)).1.drop a) (by rw [List.length_drop]; omega), cV_eq (l := (lfP (l.take K)).2.drop a) (by rw [List.length_drop]; omega)] at e
    refine e.trans ?_
    have hs : 237 < (N3.put ⟨true, (lfP l).1, (lfP l).2, []⟩).size := hs
    have d1 : (N3.put ⟨true, (lfP (l.take K)).1.take a, (lfP (l.take K)).2.take a, []⟩).size ≤ 237 := d1
    have d2 : (N3.put ⟨true, (lfP (l.take K)).1.drop a, (lfP (l.take K)).2.drop a, []⟩).size ≤ 237 := d2
    have o1 : N3.Ok ⟨true, (lfP (l.take K)).1.take a, (lfP (l.take K)).2.take a, []⟩ := c1.sm.1.1
    have o2 : N3.Ok ⟨true, (lfP (l.take K)).1.drop a, (lfP (l.take K)).2.drop a, []⟩ := c2.sm.1.1
    have o0 : N3.Ok ⟨true, (lfP l).1, (lfP l).2, []⟩ := hb.sm.1.1
    have q4 : P4t l K true true (lfP l).1 (lfP l).2 l 0 := ⟨hK, rfl, rfl, rfl, (cS_eq h0).symm, (cV_eq (by omega)).symm, rfl⟩
    rw [if_pos trivial, cond_false, if_pos o0, decide_eq_false (by omega), cond_false, if_pos q4, if_pos trivial, cond_false, if_pos (⟨trivial, hpy⟩ : True ∧ PyeL (lfP (l.take K)).1 (lfP (l.take K)).2 a), if_pos o1, decide_eq_false (by omega), cond_false, if_pos o2, decide_eq_false (by omega), cond_false, if_pos okE, if_pos o0, if_pos o0, beq_selfB]
  · refine fn_ok X_ok mixed (E4_ok sEiT_ok (sParL2_ok 0)) an4 (lp4t l 0 0) Try.func4 (by kernel_rfl) (by kernel_rfl) (lp4t_ok l 0 0) fun objs args x hx hp => ?_
    obtain rfl : x = (l, true) := hp
    obtain ⟨rfl, rfl⟩ := d18_ok hx
    refine (e4t l 0 0).trans ?_
    have hb := lf_okB l
    have o0 : N3.Ok ⟨true, (lfP l).1, (lfP l).2, []⟩ := hb.sm.1.1
    rcases emp_cases (lfP l).1 with he | he
    · rw [if_pos rfl, he, List.isEmpty_nil, cond_true, if_pos okE]
    · have hs : ¬ 237 < (N3.put ⟨true, (lfP l).1, (lfP l).2, []⟩).size := hs
      rw [if_pos rfl, emp_of he, cond_false, cS_eq he, cV_eq (l := (lfP l).2) (by have := hb.1; omega), if_pos o0, decide_eq_true (by omega), cond_true]
theorem sLaw4F (l : List R24) : SpecOk Try.prog 4 (sLaw4 l false) := by
  by_cases hs : 237 < (nI (lfP l).1 (inI l (lfP l).1.length)).put.size
  · obtain ⟨K, hK, hp, hT⟩ := bigI hs
    have hbK := li_okB (l.take K)
    obtain ⟨a, hpy, hmin⟩ := ptI hbK hp
    refine fn_ok X_ok mixed (E4_ok sEiF_ok (sParI2_ok a)) an4 (lp4f l K a) Try.func4 (by kernel_rfl) (by kernel_rfl) (lp4f_ok l K a) fun objs args x hx hp => ?_
    obtain rfl : x = (l, false) := hp
    obtain ⟨rfl, rfl⟩ := d18_ok hx
    have hb := li_okB l
    have hpy' := hpy
    obtain ⟨p1, p2, p3, p4, p5⟩ := hpy'
    have h0 : 0 < (lfP l).1.length := by
      rcases emp_cases (lfP l).1 with he | he
      · exfalso
        rw [he] at hs
        have hs : 237 < (nI [] [5]).put.size := hs
        have := putI0
        omega
      · exact he
    have h0K : 0 < (lfP (l.take K)).1.length := by omega
    have hv := hb.1
    have hvK := hbK.1
    obtain ⟨c1, c2⟩ := hbK.cut (a := a) (by omega)
    obtain ⟨d1, d2⟩ := partsI hbK (by omega) hp hT hmin
    have hle : K ≤ l.length := hK.1.1
    have e := e4f l K a
    rw [cut_t hle] at e
    simp only [Option.bind_some] at e
    rw [emp_of h0, emp_of h0K, cS_eq h0, cS_eq h0K,
      cS_eq (l := (lfP (l.take K)).1.take a) (by rw [List.length_take]; omega), cI_eq (l := (inI (l.take K) (lfP (l.take K)).1.length).take (a + 1)) (by rw [List.length_take]; omega),
      cS_eq (l := (lfP (l.take K)).1.drop (a + 1)) (by rw [List.length_drop]; omega), cI_eq (l := (inI (l.take K) (lfP (l.take K)).1.length).drop (a + 1)) (by rw [List.length_drop]; omega)] at e
    refine e.trans ?_
    have hs : 237 < (N3.put ⟨false, (lfP l).1, [], inI l (lfP l).1.length⟩).size := hs
    have d1 : (N3.put ⟨false, (lfP (l.take K)).1.take a, [], (inI (l.take K) (lfP (l.take K)).1.length).take (a + 1)⟩).size ≤ 237 := d1
    have d2 : (N3.put ⟨false, (lfP (l.take K)).1.drop (a + 1), [], (inI (l.take K) (lfP (l.take K)).1.length).drop (a + 1)⟩).size ≤ 237 := d2
    have o1 : N3.Ok ⟨false, (lfP (l.take K)).1.take a, [], (inI (l.take K) (lfP (l.take K)).1.length).take (a + 1)⟩ := c1.sm.1.1
    have o2 : N3.Ok ⟨false, (lfP (l.take K)).1.drop (a + 1), [], (inI (l.take K) (lfP (l.take K)).1.length).drop (a + 1)⟩ := c2.sm.1.1
    have o0 : N3.Ok ⟨false, (lfP l).1, [], inI l (lfP l).1.length⟩ := hb.sm.1.1
    have q4 : P4f l K false false (lfP l).1 (inI l (lfP l).1.length) l 0 := ⟨hK, rfl, rfl, rfl, (cS_eq h0).symm, rfl, rfl⟩
    rw [if_pos trivial, cond_false, if_pos o0, decide_eq_false (by omega), cond_false, if_pos q4, if_pos trivial, cond_false, if_pos (⟨trivial, hpy⟩ : True ∧ PyeI (lfP (l.take K)).1 (inI (l.take K) (lfP (l.take K)).1.length) a), if_pos o1, decide_eq_false (by omega), cond_false, if_pos o2, decide_eq_false (by omega), cond_false, if_pos okE, if_pos o0, if_pos o0, beq_selfB]
  · refine fn_ok X_ok mixed (E4_ok sEiF_ok (sParI2_ok 0)) an4 (lp4f l 0 0) Try.func4 (by kernel_rfl) (by kernel_rfl) (lp4f_ok l 0 0) fun objs args x hx hp => ?_
    obtain rfl : x = (l, false) := hp
    obtain ⟨rfl, rfl⟩ := d18_ok hx
    refine (e4f l 0 0).trans ?_
    have hb := li_okB l
    have o0 : N3.Ok ⟨false, (lfP l).1, [], inI l (lfP l).1.length⟩ := hb.sm.1.1
    rcases emp_cases (lfP l).1 with he | he
    · have p5 : (N3.put ⟨false, [], [], [5]⟩).size ≤ 237 := putI0
      rw [if_pos rfl, he, List.isEmpty_nil, cond_true, inI0, if_pos okE2, decide_eq_true (by omega), cond_true]
    · have hs : ¬ 237 < (N3.put ⟨false, (lfP l).1, [], inI l (lfP l).1.length⟩).size := hs
      rw [if_pos rfl, emp_of he, cond_false, cS_eq he, if_pos o0, decide_eq_true (by omega), cond_true]
theorem law4 (l : List R24) (b : Bool) : HCall Try.prog 4 [] [.lst 4 (l.map encS_t24), .v (.bool b)] [] (.v (.bool true)) := by
  cases b with
  | true => exact ((sLaw4T l).ok [] [.lst .t24 l, .v (.bool true)] [] (.v (.bool true)) (if_pos (show P5 l true (l, true) from rfl)) rfl rfl rfl).1
  | false => exact ((sLaw4F l).ok [] [.lst .t24 l, .v (.bool false)] [] (.v (.bool true)) (if_pos (show P5 l false (l, false) from rfl)) rfl rfl rfl).1
end Go.Proofs.Ytmcflglkfgnbbaa.Nd

