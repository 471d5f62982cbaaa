/- Texts of this claim, put together: part 12. -/
import Derived.Test.YtmcflglkfgnbbaaMrJ
import Derived.Test.YtmcflglkfgnbbaaMrK
/- Contracts for the law of parts: each shape by itself. -/
namespace Go.Proofs.Ytmcflglkfgnbbaa.Nd
open Go Go.RowKit Go.Proofs.Ytmcflglkfgnbbaa.Eng
set_option linter.unusedVariables false
set_option linter.unusedSimpArgs false
set_option maxRecDepth 20000
set_option pp.fieldNotation false
/-! ### A leaf, or an inner node, that is known ahead -/
def PeL (ks : List ByteArray) (vs : List R33) (x : List R24 × Bool) : Prop := x.2 = true ∧ (lfP x.1).1 = ks ∧ (lfP x.1).2 = vs ∧ 0 < ks.length
noncomputable instance (ks : List ByteArray) (vs : List R33) : DecidablePred (PeL ks vs) := fun _ => Classical.propDecidable _
def PeI (ks : List ByteArray) (ki : List Int) (x : List R24 × Bool) : Prop := x.2 = false ∧ (lfP x.1).1 = ks ∧ inI x.1 (lfP x.1).1.length = ki ∧ 0 < ks.length
noncomputable instance (ks : List ByteArray) (ki : List Int) : DecidablePred (PeI ks ki) := fun _ => Classical.propDecidable _
def PeE (b : Bool) (x : List R24 × Bool) : Prop := x.2 = b ∧ (lfP x.1).1 = []
noncomputable instance (b : Bool) : DecidablePred (PeE b) := fun _ => Classical.propDecidable _
noncomputable def sEiL (ks : List ByteArray) (vs : List R33) : Spc U := .of d18 (PeL ks vs) (fun _ => []) fun _ => .agg [.v (.bool true), .lst .str (cS ks), .lst .t33 (cV vs), nlv]
noncomputable def sEiI (ks : List ByteArray) (ki : List Int) : Spc U := .of d18 (PeI ks ki) (fun _ => []) fun _ => .agg [.v (.bool false), .lst .str (cS ks), nlv, .lst .i64 (cI ki)]
noncomputable def sEiE1 : Spc U := .of d18 (PeE true) (fun _ => []) fun _ => .agg [.v (.bool true), nlv, nlv, nlv]
noncomputable def sEiE2 : Spc U := .of d18 (PeE false) (fun _ => []) fun _ => .agg [.v (.bool false), nlv, nlv, .lst .i64 [5]]
theorem emp_of {l : List ByteArray} (h : 0 < l.length) : l.isEmpty = false := by cases l with
  | nil => simp at h
  | cons => rfl
theorem sEiL_ok (ks : List ByteArray) (vs : List R33) : SpecOk Try.prog 18 (sEiL ks vs) := by
  refine fn_ok X_ok mixed Eei_ok an0 lp0 Try.func18 (by kernel_rfl) (by kernel_rfl) (lp0_ok (by kernel_rfl)) fun objs args x hx hp => ?_
  obtain ⟨l, b⟩ := x
  obtain ⟨rfl, rfl⟩ := d18_ok hx
  obtain ⟨hb, rfl, rfl, hpos⟩ := hp
  obtain rfl : b = true := hb
  refine (e18t l).trans ?_
  dsimp only at hpos
  rw [if_pos trivial, emp_of hpos]
  rfl
theorem sEiI_ok (ks : List ByteArray) (ki : List Int) : SpecOk Try.prog 18 (sEiI ks ki) := by
  refine fn_ok X_ok mixed Eei_ok an0 lp0 Try.func18 (by kernel_rfl) (by kernel_rfl) (lp0_ok (by kernel_rfl)) fun objs args x hx hp => ?_
  obtain ⟨l, b⟩ := x
  obtain ⟨rfl, rfl⟩ := d18_ok hx
  obtain ⟨hb, rfl, rfl, hpos⟩ := hp
  obtain rfl : b = false := hb
  refine (e18f l).trans ?_
  dsimp only at hpos
  rw [if_pos trivial, emp_of hpos]
  rfl
theorem sEiE1_ok : SpecOk Try.prog 18 sEiE1 := by
  refine fn_ok X_ok mixed Eei_ok an0 lp0 Try.func18 (by kernel_rfl) (by kernel_rfl) (lp0_ok (by kernel_rfl)) fun objs args x hx hp => ?_
  obtain ⟨l, b⟩ := x
  obtain ⟨rfl, rfl⟩ := d18_ok hx
  obtain ⟨hb, hl⟩ := hp
  obtain rfl : b = true := hb
  refine (e18t l).trans ?_
  dsimp only at hl
  rw [if_pos trivial, hl]
  rfl
theorem sEiE2_ok : SpecOk Try.prog 18 sEiE2 := by
  refine fn_ok X_ok mixed Eei_ok an0 lp0 Try.func18 (by kernel_rfl) (by kernel_rfl) (lp0_ok (by kernel_rfl)) fun objs args x hx hp => ?_
  obtain ⟨l, b⟩ := x
  obtain ⟨rfl, rfl⟩ := d18_ok hx
  obtain ⟨hb, hl⟩ := hp
  obtain rfl : b = false := hb
  refine (e18f l).trans ?_
  dsimp only at hl
  rw [if_pos trivial, hl]
  rfl
/-! ### Where the document parts: not, or here -/
def PatN (n : N4) : Prop := n.n3.Sm ∧ n.n3.put.size ≤ 237
noncomputable instance (n : N4) : Decidable (PatN n) := Classical.propDecidable _
def PatY (n : N4) : Prop := n.n3.Sm ∧ 237 < n.n3.put.size
noncomputable instance (n : N4) : Decidable (PatY n) := Classical.propDecidable _
noncomputable def sAtN : Spc U := .of dNat (fun n => PatN n) (fun _ => []) fun n => .v (.int .i64 (-1))
noncomputable def sAtY : Spc U := .of dNat (fun n => PatY n) (fun _ => []) fun n => .v (.int .i64 n.n3.pt)
theorem sAtN_ok : SpecOk Try.prog 22 sAtN := by
  refine fn_ok X_ok mixed E22_ok an22 lp22 Try.func22 (by kernel_rfl) (by kernel_rfl) lp22_ok fun objs args n hx hp => ?_
  obtain ⟨rfl, rfl⟩ := dNat_ok hx
  obtain ⟨hp, hs⟩ := hp
  refine (e22 n).trans ?_
  rw [if_pos hp.1, if_pos (show P22 n (-1) 0 1 from ⟨hp, rfl, rfl, rfl⟩), decide_eq_true (by omega)]
  rfl
theorem sAtY_ok : SpecOk Try.prog 22 sAtY := by
  refine fn_ok X_ok mixed E22_ok an22 lp22 Try.func22 (by kernel_rfl) (by kernel_rfl) lp22_ok fun objs args n hx hp => ?_
  obtain ⟨rfl, rfl⟩ := dNat_ok hx
  obtain ⟨hp, hs⟩ := hp
  refine (e22 n).trans ?_
  rw [if_pos hp.1, if_pos (show P22 n (-1) 0 1 from ⟨hp, rfl, rfl, rfl⟩), decide_eq_false (by omega)]
  rfl
/-! ### Parted, or not -/
abbrev nL (ks : List ByteArray) (vs : List R33) : N3 := ⟨true, ks, vs, []⟩
abbrev nI (ks : List ByteArray) (ki : List Int) : N3 := ⟨false, ks, [], ki⟩
def one29 (n : R29) : TV U := .tup [.lst .t29 [n], .v (.string ⟨#[]⟩)]
def two29 (n m : R29) (z : ByteArray) : TV U := .tup [.lst .t29 [n, m], .v (.string z)]
def PnoL (ks : List ByteArray) (vs : List R33) : Prop := (nL ks vs).Sm ∧ (nL ks vs).put.size ≤ 237 ∧ 0 < ks.length
noncomputable instance (ks : List ByteArray) (vs : List R33) : Decidable (PnoL ks vs) := Classical.propDecidable _
def PyeL (ks : List ByteArray) (vs : List R33) (a : Nat) : Prop := (nL ks vs).Sm ∧ 237 < (nL ks vs).put.size ∧ (nL ks vs).pt = a ∧ 1 ≤ a ∧ a + 1 ≤ ks.length
noncomputable instance (ks : List ByteArray) (vs : List R33) (a : Nat) : Decidable (PyeL ks vs a) := Classical.propDecidable _
def PnoI (ks : List ByteArray) (ki : List Int) : Prop := (nI ks ki).Sm ∧ (nI ks ki).put.size ≤ 237 ∧ 0 < ks.length
noncomputable instance (ks : List ByteArray) (ki : List Int) : Decidable (PnoI ks ki) := Classical.propDecidable _
def PyeI (ks : List ByteArray) (ki : List Int) (a : Nat) : Prop := (nI ks ki).Sm ∧ 237 < (nI ks ki).put.size ∧ (nI ks ki).pt = a ∧ 1 ≤ a ∧ a + 2 ≤ ks.length
noncomputable instance (ks : List ByteArray) (ki : List Int) (a : Nat) : Decidable (PyeI ks ki a) := Classical.propDecidable _
def PnoE (b : Bool) (ki : List Int) : Prop := (N3.mk b [] [] ki).Sm ∧ (N3.mk b [] [] ki).put.size ≤ 237
noncomputable instance (b : Bool) (ki : List Int) : Decidable (PnoE b ki) := Classical.propDecidable _
def dE1 (objs : List (TO U)) (args : List (TV U)) : Option (Bool × List Int) := match objs, args with
  | [], [a0] =>
    match a0 with
    | .agg [q0, q1, q2, q3] =>
      match q0 with
      | .v (.bool b) =>
        match q1 with
        | .v (.slice none 0 0) =>
          match q2 with
          | .v (.slice none 0 0) =>
            match q3 with
            | .lst .i64 ki =>
              some (b, ki)
            | _ => none
          | _ => none
        | _ => none
      | _ => none
    | _ => none
  | _, _ => none
theorem dE1_ok {objs : List (TO U)} {args : List (TV U)} {b : Bool} {ki : List Int} (h : dE1 objs args = some (b, ki)) : objs = [] ∧ args = [.agg [.v (.bool b), .v (.slice none 0 0), .v (.slice none 0 0), .lst .i64 ki]] := by
  unfold dE1 at h
  repeat' split at h
  all_goals first | (cases h; done) | (cases h; exact ⟨rfl, rfl⟩)
def dE2 (objs : List (TO U)) (args : List (TV U)) : Option (Bool) := match objs, args with
  | [], [a0] =>
    match a0 with
    | .agg [q0, q1, q2, q3] =>
      match q0 with
      | .v (.bool b) =>
        match q1 with
        | .v (.slice none 0 0) =>
          match q2 with
          | .v (.slice none 0 0) =>
            match q3 with
            | .v (.slice none 0 0) =>
              some b
            | _ => none
          | _ => none
        | _ => none
      | _ => none
    | _ => none
  | _, _ => none
theorem dE2_ok {objs : List (TO U)} {args : List (TV U)} {b : Bool} (h : dE2 objs args = some b) : objs = [] ∧ args = [.agg [.v (.bool b), .v (.slice none 0 0), .v (.slice none 0 0), .v (.slice none 0 0)]] := by
  unfold dE2 at h
  repeat' split at h
  all_goals first | (cases h; done) | (cases h; exact ⟨rfl, rfl⟩)
noncomputable def sParE1 : Spc U := .of dE1 (fun (b, ki) => PnoE b ki ∧ 0 < ki.length) (fun _ => []) fun (b, ki) => one29 ⟨b, [], [], cI ki⟩
noncomputable def sParE2 : Spc U := .of dE2 (fun b => PnoE b []) (fun _ => []) fun b => one29 ⟨b, [], [], []⟩
noncomputable def sParL1 : Spc U := .of dCl (fun (b, ks, vs) => b = true ∧ PnoL ks vs) (fun _ => []) fun (b, ks, vs) => one29 ⟨true, cS ks, cV vs, []⟩
noncomputable def sParI1 : Spc U := .of dCi (fun (b, ks, ki) => b = false ∧ PnoI ks ki) (fun _ => []) fun (b, ks, ki) => one29 ⟨false, cS ks, [], cI ki⟩
noncomputable def sParL2 (a : Nat) : Spc U := .of dCl (fun (b, ks, vs) => b = true ∧ PyeL ks vs a) (fun _ => []) fun (b, ks, vs) => two29 ⟨true, cS (ks.take a), cV (vs.take a), []⟩ ⟨true, cS (ks.drop a), cV (vs.drop a), []⟩ ((getI ks a).getD ⟨#[]⟩)
noncomputable def sParI2 (a : Nat) : Spc U := .of dCi (fun (b, ks, ki) => b = false ∧ PyeI ks ki a) (fun _ => []) fun (b, ks, ki) => two29 ⟨false, cS (ks.take a), [], cI (ki.take (a + 1))⟩ ⟨false, cS (ks.drop (a + 1)), [], cI (ki.drop (a + 1))⟩ ((getI ks a).getD ⟨#[]⟩)
theorem lenL {ks : List ByteArray} {vs : List R33} (h : (nL ks vs).Ok) : vs.length = ks.length := h.2.2.2.1 rfl
theorem lenI {ks : List ByteArray} {ki : List Int} (h : (nI ks ki).Ok) : ki.length = ks.length + 1 := h.2.2.2.2 rfl
theorem sParE1_ok : SpecOk Try.prog 20 sParE1 := by
  refine fn_ok X_ok mixed (E20_ok sCopL_ok) an0 lp0 Try.func20 (by kernel_rfl) (by kernel_rfl) (lp0_ok (by kernel_rfl)) fun objs args x hx hp => ?_
  obtain ⟨b, ki⟩ := x
  obtain ⟨rfl, rfl⟩ := dE1_ok hx
  obtain ⟨⟨h, hs⟩, h0⟩ := hp
  have h0 : 0 < ki.length := h0
  have e := e20n b ki
  rw [cI_eq h0] at e
  refine e.trans ?_
  rw [if_pos h.1, decide_eq_true (by omega), cond_true]
  rfl
theorem sParE2_ok : SpecOk Try.prog 20 sParE2 := by
  refine fn_ok X_ok mixed (E20_ok sCopL_ok) an0 lp0 Try.func20 (by kernel_rfl) (by kernel_rfl) (lp0_ok (by kernel_rfl)) fun objs args b hx hp => ?_
  obtain ⟨rfl, rfl⟩ := dE2_ok hx
  obtain ⟨h, hs⟩ := hp
  refine (e20m b).trans ?_
  rw [if_pos h.1, decide_eq_true (by omega), cond_true]
  rfl
theorem sParL1_ok : SpecOk Try.prog 20 sParL1 := by
  refine fn_ok X_ok mixed (E20_ok sCopL_ok) an0 lp0 Try.func20 (by kernel_rfl) (by kernel_rfl) (lp0_ok (by kernel_rfl)) fun objs args x hx hp => ?_
  obtain ⟨b, ks, vs⟩ := x
  obtain ⟨rfl, rfl⟩ := dCl_ok hx
  obtain ⟨hb, h, hs, h0⟩ := hp
  obtain rfl : b = true := hb
  have hl := lenL h.1
  have e := e20l ks vs
  rw [cS_eq h0, cV_eq (by omega)] at e
  refine e.trans ?_
  have hs : (N3.put ⟨true, ks, vs, []⟩).size ≤ 237 := hs
  rw [if_pos h.1, decide_eq_true (by omega), cond_true]
  rfl
theorem sParI1_ok : SpecOk Try.prog 20 sParI1 := by
  refine fn_ok X_ok mixed (E20_ok sCopI_ok) an0 lp0 Try.func20 (by kernel_rfl) (by kernel_rfl) (lp0_ok (by kernel_rfl)) fun objs args x hx hp => ?_
  obtain ⟨b, ks, ki⟩ := x
  obtain ⟨rfl, rfl⟩ := dCi_ok hx
  obtain ⟨hb, h, hs, h0⟩ := hp
  obtain rfl : b = false := hb
  have hl := lenI h.1
  have e := e20i ks ki
  rw [cS_eq h0, cI_eq (by omega)] at e
  refine e.trans ?_
  have hs : (N3.put ⟨false, ks, [], ki⟩).size ≤ 237 := hs
  rw [if_pos h.1, decide_eq_true (by omega), cond_true]
  rfl
theorem cut_t {α : Type} {l : List α} {a : Nat} (h : a ≤ l.length) : cutI l none (some (a : Int)) = some (l.take a) := by
  show (if 0 ≤ (a : Int) ∧ (a : Int) ≤ (l.length : Int) then some (l.take (a : Int).toNat) else none) = _
  rw [if_pos ⟨by omega, by omega⟩, Int.toNat_natCast]
theorem cut_d {α : Type} {l : List α} {a : Nat} (h : a ≤ l.length) : cutI l (some (a : Int)) none = some (l.drop a) := by
  show (if 0 ≤ (a : Int) ∧ (a : Int) ≤ (l.length : Int) then some (l.drop (a : Int).toNat) else none) = _
  rw [if_pos ⟨by omega, by omega⟩, Int.toNat_natCast]
theorem sParL2_ok (a : Nat) : SpecOk Try.prog 20 (sParL2 a) := by
  refine fn_ok X_ok mixed (E20_ok sCopL_ok) an0 lp0 Try.func20 (by kernel_rfl) (by kernel_rfl) (lp0_ok (by kernel_rfl)) fun objs args x hx hp => ?_
  obtain ⟨b, ks, vs⟩ := x
  obtain ⟨rfl, rfl⟩ := dCl_ok hx
  obtain ⟨hb, h, hs, hpt, h1, h2⟩ := hp
  obtain rfl : b = true := hb
  have hl := lenL h.1
  have hlen := h.1.len
  have hlen : ks.length ≤ 1000000 := hlen
  have e := e20l ks vs
  rw [cS_eq (l := ks) (by omega), cV_eq (l := vs) (by omega)] at e
  refine e.trans ?_
  have hs : 237 < (N3.put ⟨true, ks, vs, []⟩).size := hs
  have ha : atM (N3.szs ⟨true, ks, vs, []⟩) 0 = a := hpt
  obtain ⟨z, hz, _⟩ := getE (l := ks) (v := (a : Int)) (by omega) (by omega)
  rw [if_pos h.1, decide_eq_false (by omega), cond_false, if_pos h.1, if_pos h.szs.1, ha, cut_t (l := ks) (by omega), cut_t (l := vs) (by omega), cut_d (l := ks) (by omega), cut_d (l := vs) (by omega), hz]
  simp only [Option.bind_some]
  rw [if_pos (show Sp2 (ks.take a).length (vs.take a).length by unfold Sp2 Sp; rw [List.length_take, List.length_take]; omega), if_pos (show Sp2 (ks.drop a).length (vs.drop a).length by unfold Sp2 Sp; rw [List.length_drop, List.length_drop]; omega)]
  show _ = some ([], two29 _ _ ((getI ks a).getD ⟨#[]⟩))
  rw [hz]
  rfl
theorem sParI2_ok (a : Nat) : SpecOk Try.prog 20 (sParI2 a) := by
  refine fn_ok X_ok mixed (E20_ok sCopI_ok) an0 lp0 Try.func20 (by kernel_rfl) (by kernel_rfl) (lp0_ok (by kernel_rfl)) fun objs args x hx hp => ?_
  obtain ⟨b, ks, ki⟩ := x
  obtain ⟨rfl, rfl⟩ := dCi_ok hx
  obtain ⟨hb, h, hs, hpt, h1, h2⟩ := hp
  obtain rfl : b = false := hb
  have hl := lenI h.1
  have hlen := h.1.len
  have hlen : ks.length ≤ 1000000 := hlen
  have e := e20i ks ki
  rw [cS_eq (l := ks) (by omega), cI_eq (l := ki) (by omega)] at e
  refine e.trans ?_
  have hs : 237 < (N3.put ⟨false, ks, [], ki⟩).size := hs
  have ha : atM (N3.szs ⟨false, ks, [], ki⟩) 1 = a := hpt
  have hw : IntKind.i64.wrap ((a : Int) + 1) = ((a + 1 : Nat) : Int) := wr (a := (a : Int) + 1) (by omega) (by omega)
  obtain ⟨z, hz, _⟩ := getE (l := ks) (v := (a : Int)) (by omega) (by omega)
  obtain ⟨⟨q1, q2, _⟩, _⟩ := h.szs
  have q : P49 (N3.szs ⟨false, ks, [], ki⟩) 1 := ⟨q1, q2, .inr rfl⟩
  rw [if_pos h.1, decide_eq_false (by omega), cond_false, if_pos h.1, if_pos q, ha, hw, cut_t (l := ks) (by omega), cut_t (l := ki) (by omega), cut_d (l := ks) (by omega), cut_d (l := ki) (by omega), hz]
  simp only [Option.bind_some]
  rw [if_pos (show Sp2 (ks.take a).length (ki.take (a + 1)).length by unfold Sp2 Sp; rw [List.length_take, List.length_take]; omega), if_pos (show Sp2 (ks.drop (a + 1)).length (ki.drop (a + 1)).length by unfold Sp2 Sp; rw [List.length_drop, List.length_drop]; omega)]
  show _ = some ([], two29 _ _ ((getI ks a).getD ⟨#[]⟩))
  rw [hz]
  rfl
/-! ### Joined -/
theorem E23_ok : ∀ f S, E23 f = some S → SpecOk Try.prog f S := fun f S h => by
  unfold E23 at h
  split at h
  · cases h; exact sCopy_ok
  · cases h
def dJl (objs : List (TO U)) (args : List (TV U)) : Option (Bool × List ByteArray × List R33 × ByteArray × Bool × List ByteArray × List R33) := match objs, args with
  | [], [a0, a1, a2] =>
    match a0 with
    | .agg [q0, q1, q2, q3] =>
      match q0 with
      | .v (.bool b) =>
        match q1 with
        | .lst .str k1 =>
          match q2 with
          | .lst .t33 v1 =>
            match q3 with
            | .v (.slice none 0 0) =>
              match a1 with
              | .v (.string z) =>
                match a2 with
                | .agg [q4, q5, q6, q7] =>
                  match q4 with
                  | .v (.bool c) =>
                    match q5 with
                    | .lst .str k2 =>
                      match q6 with
                      | .lst .t33 v2 =>
                        match q7 with
                        | .v (.slice none 0 0) =>
                          some (b, k1, v1, z, c, k2, v2)
                        | _ => none
                      | _ => none
                    | _ => none
                  | _ => none
                | _ => none
              | _ => none
            | _ => none
          | _ => none
        | _ => none
      | _ => none
    | _ => none
  | _, _ => none
theorem dJl_ok {objs : List (TO U)} {args : List (TV U)} {b : Bool} {k1 : List ByteArray} {v1 : List R33} {z : ByteArray} {c : Bool} {k2 : List ByteArray} {v2 : List R33} (h : dJl objs args = some (b, k1, v1, z, c, k2, v2)) : objs = [] ∧ args = [.agg [.v (.bool b), .lst .str k1, .lst .t33 v1, .v (.slice none 0 0)], .v (.string z), .agg [.v (.bool c), .lst .str k2, .lst .t33 v2, .v (.slice none 0 0)]] := by
  unfold dJl at h
  repeat' split at h
  all_goals first | (cases h; done) | (cases h; exact ⟨rfl, rfl⟩)
def dJi (objs : List (TO U)) (args : List (TV U)) : Option (Bool × List ByteArray × List Int × ByteArray × Bool × List ByteArray × List Int) := match objs, args with
  | [], [a0, a1, a2] =>
    match a0 with
    | .agg [q0, q1, q2, q3] =>
      match q0 with
      | .v (.bool b) =>
        match q1 with
        | .lst .str k1 =>
          match q2 with
          | .v (.slice none 0 0) =>
            match q3 with
            | .lst .i64 i1 =>
              match a1 with
              | .v (.string z) =>
                match a2 with
                | .agg [q4, q5, q6, q7] =>
                  match q4 with
                  | .v (.bool c) =>
                    match q5 with
                    | .lst .str k2 =>
                      match q6 with
                      | .v (.slice none 0 0) =>
                        match q7 with
                        | .lst .i64 i2 =>
                          some (b, k1, i1, z, c, k2, i2)
                        | _ => none
                      | _ => none
                    | _ => none
                  | _ => none
                | _ => none
              | _ => none
            | _ => none
          | _ => none
        | _ => none
      | _ => none
    | _ => none
  | _, _ => none
theorem dJi_ok {objs : List (TO U)} {args : List (TV U)} {b : Bool} {k1 : List ByteArray} {i1 : List Int} {z : ByteArray} {c : Bool} {k2 : List ByteArray} {i2 : List Int} (h : dJi objs args = some (b, k1, i1, z, c, k2, i2)) : objs = [] ∧ args = [.agg [.v (.bool b), .lst .str k1, .v (.slice none 0 0), .lst .i64 i1], .v (.string z), .agg [.v (.bool c), .lst .str k2, .v (.slice none 0 0), .lst .i64 i2]] := by
  unfold dJi at h
  repeat' split at h
  all_goals first | (cases h; done) | (cases h; exact ⟨rfl, rfl⟩)
def PJ (b c q : Bool) (k1 k2 v1 v2 : Nat) : Prop := b = q ∧ c = q ∧ Sp k1 ∧ Sp k2 ∧ Sp v1 ∧ Sp v2
instance (b c q : Bool) (k1 k2 v1 v2 : Nat) : Decidable (PJ b c q k1 k2 v1 v2) := by unfold PJ; infer_instance
noncomputable def sJoiL : Spc U := .of dJl (fun (b, k1, v1, z, c, k2, v2) => PJ b c true k1.length k2.length v1.length v2.length) (fun _ => []) fun (b, k1, v1, z, c, k2, v2) => .agg [.v (.bool true), .lst .str (k1 ++ k2), .lst .t33 (v1 ++ v2), nlv]
noncomputable def sJoiI : Spc U := .of dJi (fun (b, k1, i1, z, c, k2, i2) => PJ b c false k1.length k2.length i1.length i2.length) (fun _ => []) fun (b, k1, i1, z, c, k2, i2) => .agg [.v (.bool false), .lst .str (k1 ++ [z] ++ k2), nlv, .lst .i64 (i1 ++ i2)]
theorem sJoiL_ok : SpecOk Try.prog 23 sJoiL := by
  refine fn_ok X_ok mixed E23_ok an0 lp0 Try.func23 (by kernel_rfl) (by kernel_rfl) (lp0_ok (by kernel_rfl)) fun objs args x hx hp => ?_
  obtain ⟨b, k1, v1, z, c, k2, v2⟩ := x
  obtain ⟨rfl, rfl⟩ := dJl_ok hx
  obtain ⟨hb, hc, ⟨a1, a2⟩, ⟨b1, b2⟩, ⟨c1, c2⟩, d1, d2⟩ := hp
  obtain rfl : b = true := hb
  obtain rfl : c = true := hc
  have e := e23l k1 k2 v1 v2 z
  have hk : k1.headD ⟨#[]⟩ :: k1.tail = k1 := cS_eq a1
  have hv : v1.headD ⟨⟨#[]⟩, 0, 0⟩ :: v1.tail = v1 := cV_eq c1
  rw [cS_eq a1, cS_eq b1, cV_eq c1, cV_eq d1, hk, hv] at e
  refine e.trans ?_
  rw [if_pos (show PreNd ⟨true, k1, v1, []⟩ from ⟨by show k1.length ≤ _; omega, by show v1.length ≤ _; omega, by show ([] : List Int).length ≤ _; simp⟩), if_pos (by omega), if_pos (by omega)]
  rfl
theorem sJoiI_ok : SpecOk Try.prog 23 sJoiI := by
  refine fn_ok X_ok mixed E23_ok an0 lp0 Try.func23 (by kernel_rfl) (by kernel_rfl) (lp0_ok (by kernel_rfl)) fun objs args x hx hp => ?_
  obtain ⟨b, k1, i1, z, c, k2, i2⟩ := x
  obtain ⟨rfl, rfl⟩ := dJi_ok hx
  obtain ⟨hb, hc, ⟨a1, a2⟩, ⟨b1, b2⟩, ⟨c1, c2⟩, d1, d2⟩ := hp
  obtain rfl : b = false := hb
  obtain rfl : c = false := hc
  have e := e23i k1 k2 i1 i2 z
  have hk : k1.headD ⟨#[]⟩ :: k1.tail = k1 := cS_eq a1
  have hv : i1.headD 0 :: i1.tail = i1 := cI_eq c1
  rw [cS_eq a1, cS_eq b1, cI_eq c1, cI_eq d1, hk, hv] at e
  refine e.trans ?_
  rw [if_pos (show PreNd ⟨false, k1, [], i1⟩ from ⟨by show k1.length ≤ _; omega, by show ([] : List R33).length ≤ _; simp, by show i1.length ≤ _; omega⟩), if_pos (by omega), if_pos (by rw [List.length_append, List.length_singleton]; omega), if_pos (by omega)]
  rfl
end Go.Proofs.Ytmcflglkfgnbbaa.Nd

/- Parts of a node: the law's function, for each shape. -/
namespace Go.Proofs.Ytmcflglkfgnbbaa.Nd
open Go Go.RowKit Go.Proofs.Ytmcflglkfgnbbaa.Eng
set_option linter.unusedVariables false
set_option linter.unusedSimpArgs false
set_option maxRecDepth 20000
set_option pp.fieldNotation false
noncomputable def E5 (Ei Pa At Jo : Spc U) : FuncId → Option (Spc U)
  | 15 => some sAwake
  | 16 => some sSame
  | 17 => some sRef
  | 18 => some Ei
  | 20 => some Pa
  | 22 => some At
  | 23 => some Jo
  | _ => none
theorem E5_ok {Ei Pa At Jo : Spc U} (h1 : SpecOk Try.prog 18 Ei) (h2 : SpecOk Try.prog 20 Pa) (h3 : SpecOk Try.prog 22 At) (h4 : SpecOk Try.prog 23 Jo) : ∀ f S, E5 Ei Pa At Jo f = some S → SpecOk Try.prog f S := fun f S h => by
  unfold E5 at h
  split at h
  · cases h; exact sAwake15_ok
  · cases h; exact sSame_ok
  · cases h; exact sRef_ok
  · cases h; exact h1
  · cases h; exact h2
  · cases h; exact h3
  · cases h; exact h4
  · cases h
theorem e5E1 (l : List
  R24) : (evFn X (E5 sEiE1 sParE2 sAtN sJoiL) an0 lp0 Try.f5 [] [TV.lst C.t24 l, TV.v (Value.bool true)]
  fun (o : List (TO (Cx.U X))) (v : TV (Cx.U X)) => some (o, v)) =
  if PeE true (l, true) then
  if PatN { L := true, K := [], V := List.map cvR [], I := [] } then
    if PnoE true [] then
      bif List.beq (ByteArray.toList (⟨#[]⟩ : ByteArray)) (ByteArray.toList (⟨#[]⟩ : ByteArray)) then
        if
            P16 { L := true, K := [], V := List.map cvR [], I := [] }
              { L := true, K := [], V := List.map cvR [], I := [] } 0 then
          some ([], TV.v (Value.bool true))
        else none
      else some ([], TV.v (Value.bool false))
    else none
  else none
else none := by kernel_rfl
theorem e5E2 (l : List
  R24) : (evFn X (E5 sEiE2 sParE1 sAtN sJoiL) an0 lp0 Try.f5 [] [TV.lst C.t24 l, TV.v (Value.bool false)]
  fun (o : List (TO (Cx.U X))) (v : TV (Cx.U X)) => some (o, v)) =
  if PeE false (l, false) then
  if PatN { L := false, K := [], V := List.map cvR [], I := [5] } then
    if PnoE false [5] ∧ 0 < 1 then
      bif List.beq (ByteArray.toList (⟨#[]⟩ : ByteArray)) (ByteArray.toList (⟨#[]⟩ : ByteArray)) then
        if
            P16 { L := false, K := [], V := List.map cvR [], I := cI [5] }
              { L := false, K := [], V := List.map cvR [], I := [5] } 0 then
          some ([], TV.v (Value.bool true))
        else none
      else some ([], TV.v (Value.bool false))
    else none
  else none
else none := by kernel_rfl
theorem e5L1 (l : List
  R24) (ks : List
  ByteArray) (vs : List
  R33) : (evFn X (E5 (sEiL ks vs) sParL1 sAtN sJoiL) an0 lp0 Try.f5 [] [TV.lst C.t24 l, TV.v (Value.bool true)]
  fun (o : List (TO (Cx.U X))) (v : TV (Cx.U X)) => some (o, v)) =
  if PeL ks vs (l, true) then
  if PreRf (List.length (cV vs)) then
    if PatN { L := true, K := cS ks, V := List.map cvR (cV vs), I := [] } then
      if true = true ∧ PnoL (cS ks) (cV vs) then
        bif List.beq (ByteArray.toList (⟨#[]⟩ : ByteArray)) (ByteArray.toList (⟨#[]⟩ : ByteArray)) then
          if PreRf (List.length (cV (cV vs))) then
            if PreRf (List.length (cV vs)) then
              if
                  P16 { L := true, K := cS (cS ks), V := List.map cvR (cV (cV vs)), I := [] }
                    { L := true, K := cS ks, V := List.map cvR (cV vs), I := [] } 0 then
                some ([], TV.v (Value.bool true))
              else none
            else none
          else none
        else some ([], TV.v (Value.bool false))
      else none
    else none
  else none
else none := by kernel_rfl
theorem e5I1 (l : List
  R24) (ks : List
  ByteArray) (ki : List
  Int) : (evFn X (E5 (sEiI ks ki) sParI1 sAtN sJoiL) an0 lp0 Try.f5 [] [TV.lst C.t24 l, TV.v (Value.bool false)]
  fun (o : List (TO (Cx.U X))) (v : TV (Cx.U X)) => some (o, v)) =
  if PeI ks ki (l, false) then
  if PreRf 0 then
    if PatN { L := false, K := cS ks, V := List.map cvR [], I := cI ki } then
      if false = false ∧ PnoI (cS ks) (cI ki) then
        bif List.beq (ByteArray.toList (⟨#[]⟩ : ByteArray)) (ByteArray.toList (⟨#[]⟩ : ByteArray)) then
          if PreRf 0 then
            if PreRf 0 then
              if
                  P16 { L := false, K := cS (cS ks), V := List.map cvR [], I := cI (cI ki) }
                    { L := false, K := cS ks, V := List.map cvR [], I := cI ki } 0 then
                some ([], TV.v (Value.bool true))
              else none
            else none
          else none
        else some ([], TV.v (Value.bool false))
      else none
    else none
  else none
else none := by kernel_rfl
theorem e5L2 (l : List
  R24) (ks : List
  ByteArray) (vs : List
  R33) (a : Nat) : (evFn X (E5 (sEiL ks vs) (sParL2 a) sAtY sJoiL) an0 lp0 Try.f5 []
  [TV.lst C.t24 l, TV.v (Value.bool true)] fun (o : List (TO (Cx.U X))) (v : TV (Cx.U X)) => some (o, v)) =
  if PeL ks vs (l, true) then
  if PreRf (List.length (cV vs)) then
    if PatY { L := true, K := cS ks, V := List.map cvR (cV vs), I := [] } then
      if true = true ∧ PyeL (cS ks) (cV vs) a then
        bif decide (N3.pt (N4.n3 { L := true, K := cS ks, V := List.map cvR (cV vs), I := [] }) < 0) then
          some ([], TV.v (Value.bool false))
        else
          Option.bind (getI (cS ks) (N3.pt (N4.n3 { L := true, K := cS ks, V := List.map cvR (cV vs), I := [] })))
            fun (z : Univ.T (Cx.U X) C.str) =>
            bif !ByteArray.toList (Option.getD (getI (cS ks) (↑a : Int)) (⟨#[]⟩ : ByteArray)) == ByteArray.toList z then
              some ([], TV.v (Value.bool false))
            else
              bif
                  !decide
                      ((↑(List.length (cS (List.take a (cS ks)))) : Int) =
                        N3.pt (N4.n3 { L := true, K := cS ks, V := List.map cvR (cV vs), I := [] })) then
                some ([], TV.v (Value.bool false))
              else
                if
                    PJ true true true (List.length (cS (List.take a (cS ks)))) (List.length (cS (List.drop a (cS ks))))
                      (List.length (cV (List.take a (cV vs)))) (List.length (cV (List.drop a (cV vs)))) then
                  if PreRf (List.length (cV (List.take a (cV vs)) ++ cV (List.drop a (cV vs)))) then
                    if PreRf (List.length (cV vs)) then
                      if
                          P16
                            { L := true, K := cS (List.take a (cS ks)) ++ cS (List.drop a (cS ks)),
                              V := List.map cvR (cV (List.take a (cV vs)) ++ cV (List.drop a (cV vs))), I := [] }
                            { L := true, K := cS ks, V := List.map cvR (cV vs), I := [] } 0 then
                        bif
                            decide
                              ((↑(List.length (cS (List.drop a (cS ks)))) : Int) =
                                IntKind.wrap IntKind.i64
                                  ((↑(List.length (cS ks)) : Int) -
                                    N3.pt (N4.n3 { L := true, K := cS ks, V := List.map cvR (cV vs), I := [] }))) then
                          some ([], TV.v (Value.bool true))
                        else some ([], TV.v (Value.bool false))
                      else none
                    else none
                  else none
                else none
      else none
    else none
  else none
else none := by kernel_rfl
theorem e5I2 (l : List
  R24) (ks : List
  ByteArray) (ki : List
  Int) (a : Nat) : (evFn X (E5 (sEiI ks ki) (sParI2 a) sAtY sJoiI) an0 lp0 Try.f5 []
  [TV.lst C.t24 l, TV.v (Value.bool false)] fun (o : List (TO (Cx.U X))) (v : TV (Cx.U X)) => some (o, v)) =
  if PeI ks ki (l, false) then
  if PreRf 0 then
    if PatY { L := false, K := cS ks, V := List.map cvR [], I := cI ki } then
      if false = false ∧ PyeI (cS ks) (cI ki) a then
        bif decide (N3.pt (N4.n3 { L := false, K := cS ks, V := List.map cvR [], I := cI ki }) < 0) then
          some ([], TV.v (Value.bool false))
        else
          Option.bind (getI (cS ks) (N3.pt (N4.n3 { L := false, K := cS ks, V := List.map cvR [], I := cI ki })))
            fun (z : Univ.T (Cx.U X) C.str) =>
            bif !ByteArray.toList (Option.getD (getI (cS ks) (↑a : Int)) (⟨#[]⟩ : ByteArray)) == ByteArray.toList z then
              some ([], TV.v (Value.bool false))
            else
              bif
                  !decide
                      ((↑(List.length (cS (List.take a (cS ks)))) : Int) =
                        N3.pt (N4.n3 { L := false, K := cS ks, V := List.map cvR [], I := cI ki })) then
                some ([], TV.v (Value.bool false))
              else
                if
                    PJ false false false (List.length (cS (List.take a (cS ks))))
                      (List.length (cS (List.drop (a + 1) (cS ks)))) (List.length (cI (List.take (a + 1) (cI ki))))
                      (List.length (cI (List.drop (a + 1) (cI ki)))) then
                  if PreRf 0 then
                    if PreRf 0 then
                      if
                          P16
                            { L := false,
                              K :=
                                cS (List.take a (cS ks)) ++ [Option.getD (getI (cS ks) (↑a : Int)) (⟨#[]⟩ : ByteArray)] ++
                                  cS (List.drop (a + 1) (cS ks)),
                              V := List.map cvR [],
                              I := cI (List.take (a + 1) (cI ki)) ++ cI (List.drop (a + 1) (cI ki)) }
                            { L := false, K := cS ks, V := List.map cvR [], I := cI ki } 0 then
                        some
                          ([],
                            TV.v
                              (Value.bool
                                (decide
                                  ((↑(List.length (cS (List.drop (a + 1) (cS ks)))) : Int) =
                                    IntKind.wrap IntKind.i64
                                      (IntKind.wrap IntKind.i64
                                          ((↑(List.length (cS ks)) : Int) -
                                            N3.pt
                                              (N4.n3 { L := false, K := cS ks, V := List.map cvR [], I := cI ki })) -
                                        1)))))
                      else none
                    else none
                  else none
                else none
      else none
    else none
  else none
else none := by kernel_rfl
end Go.Proofs.Ytmcflglkfgnbbaa.Nd

/- How great the parts of a node are. -/
namespace Go.Proofs.Ytmcflglkfgnbbaa.Nd
open Go Go.RowKit Go.Proofs.Ytmcflglkfgnbbaa.Eng
set_option linter.unusedVariables false
set_option linter.unusedSimpArgs false
set_option maxRecDepth 20000
theorem bL_len (n : Nat) : (n < 128 → (bL n).length = 1) ∧ (n < 16384 → (bL n).length ≤ 2) ∧ (n < 2097152 → (bL n).length ≤ 3) := by
  have h1 : ∀ n : Nat, n < 128 → (bL n).length = 1 := fun n h => by unfold bL; rw [if_pos h]; rfl
  have h2 : ∀ n : Nat, n < 16384 → (bL n).length ≤ 2 := fun n h => by
    unfold bL
    split
    · simp
    · have := h1 (n / 128) (by omega)
      rw [List.length_cons]; omega
  refine ⟨h1 n, h2 n, fun h => ?_⟩
  unfold bL
  split
  · simp
  · have := h2 (n / 128) (by omega)
    rw [List.length_cons]; omega
theorem numB_len (v : Int) (h : 0 ≤ v) (h2 : v < 2097152) : (numB (IntKind.u64.wrap v)).size = (bL v.toNat).length := by
  have e : IntKind.u64.wrap v = v := by
    show v % (2 ^ 64) = v
    omega
  rw [e, ← numB_bL, tl8_len]
theorem numB_1 {v : Int} (h : 0 ≤ v) (h2 : v < 128) : (numB (IntKind.u64.wrap v)).size = 1 := by rw [numB_len v h (by omega)]; exact (bL_len _).1 (by omega)
theorem numB_2 {v : Int} (h : 0 ≤ v) (h2 : v < 16384) : (numB (IntKind.u64.wrap v)).size ≤ 2 := by rw [numB_len v h (by omega)]; exact (bL_len _).2.1 (by omega)
theorem numB_3 {v : Int} (h : 0 ≤ v) (h2 : v < 2097152) : (numB (IntKind.u64.wrap v)).size ≤ 3 := by rw [numB_len v h (by omega)]; exact (bL_len _).2.2 (by omega)
theorem textB_len {s : ByteArray} (h : s.size ≤ 64) : (textB s).size = 1 + s.size := by
  unfold textB
  rw [app_size, numB_1 (by omega) (by omega)]
def VokB (v : R33) : Prop := (0 ≤ v.Page → v.Page ≤ 16383 ∧ 0 ≤ v.Len ∧ v.Len ≤ 65536 ∧ v.Data.size ≤ 48) ∧ (v.Page < 0 → v.Data.size ≤ 48)
theorem entB_115 {k : ByteArray} {v : R33} (hk : k.size ≤ 64) (hv : VokB v) : (entB k v).size ≤ 115 := by
  have h1 := textB_len hk
  unfold entB
  by_cases hp : 0 ≤ v.Page
  · obtain ⟨a, b, c, _⟩ := hv.1 hp
    have h2 := numB_2 hp (by omega)
    have h3 := numB_3 b (by omega)
    rw [decide_eq_true hp, cond_true, app_size, app_size, app_size, sz1]
    omega
  · have := hv.2 (by omega)
    have h2 := textB_len (s := v.Data) (by omega)
    rw [decide_eq_false hp, cond_false, app_size, app_size, sz1]
    omega
theorem lnkB_67 {k : ByteArray} {n : Int} (hk : k.size ≤ 64) (h0 : 0 ≤ n) (h1 : n ≤ 16383) : (lnkB k n).size ≤ 67 ∧ (lnkB k n).size = 1 + k.size + (numB (IntKind.u64.wrap n)).size := by
  have h1' := textB_len hk
  have h2 := numB_2 h0 (by omega)
  unfold lnkB
  rw [app_size]
  omega
/-! ### What a leaf of some keys has -/
theorem mem_insB {α : Type} {xs : List α} {y z : α} {i : Int} (h : z ∈ insL xs [y] i) : z ∈ xs ∨ z = y := by
  unfold insL at h
  rw [List.mem_append, List.mem_append, List.mem_singleton] at h
  rcases h with h | h | h
  · exact .inl (List.mem_of_mem_take h)
  · exact .inr h
  · exact .inl (List.mem_of_mem_drop h)
theorem and_bdB (x : Int) : 0 ≤ IntKind.i64.wrap (↑(BitVec.ofInt IntKind.i64.bits x &&& BitVec.ofInt IntKind.i64.bits 16383).toNat : Int) ∧ IntKind.i64.wrap (↑(BitVec.ofInt IntKind.i64.bits x &&& BitVec.ofInt IntKind.i64.bits 16383).toNat : Int) ≤ 16383 := by
  have h : (BitVec.ofInt IntKind.i64.bits x &&& BitVec.ofInt IntKind.i64.bits 16383).toNat ≤ 16383 := by
    rw [BitVec.toNat_and]
    exact Nat.le_trans Nat.and_le_right (by decide)
  rw [wr (by omega) (by omega)]
  omega
theorem pgI_bdB (z : R24) : 0 ≤ pgI z ∧ pgI z ≤ 16383 := and_bdB z.Page
theorem keyP_64 (z : R24) : (keyP z).size ≤ 64 := by
  unfold keyP
  rw [ByteArray.size_extract]
  omega
theorem valP_okB (z : R24) : VokB (valP z) := by
  unfold valP
  cases decide (IntKind.i64.wrap (↑(BitVec.ofInt IntKind.i64.bits z.Page &&& BitVec.ofInt IntKind.i64.bits 1).toNat : Int) = 0) with
  | true =>
    refine ⟨fun h => absurd h (by show ¬ (0 : Int) ≤ -1; omega), fun _ => ?_⟩
    show (z.V.extract 0 (min z.V.size 48)).size ≤ 48
    rw [ByteArray.size_extract]
    omega
  | false =>
    obtain ⟨a1, a2⟩ := and_bdB z.Page
    obtain ⟨b1, b2⟩ := and_bdB z.Len
    have hw : ∀ y : Int, 0 ≤ y → y ≤ 16383 → IntKind.i64.wrap (49 + y) = 49 + y := fun y h0 h1 => wr (by omega) (by omega)
    refine ⟨fun h => ⟨a2, ?_, ?_, by show (0 : Nat) ≤ 48; omega⟩, fun h => absurd h (by show ¬ IntKind.i64.wrap _ < 0; omega)⟩
    · show 0 ≤ IntKind.i64.wrap (49 + _)
      rw [hw _ b1 b2]
      omega
    · show IntKind.i64.wrap (49 + _) ≤ 65536
      rw [hw _ b1 b2]
      omega
theorem fold_allB : ∀ (l : List R24) (c : List ByteArray × List R33), (∀ k ∈ c.1, k.size ≤ 64) → (∀ v ∈ c.2, VokB v) → (∀ k ∈ (l.foldl stL c).1, k.size ≤ 64) ∧ ∀ v ∈ (l.foldl stL c).2, VokB v
  | [], c, h1, h2 => ⟨h1, h2⟩
  | z :: l, c, h1, h2 => by
    rw [List.foldl_cons]
    refine fold_allB l (stL c z) (fun k hk => ?_) (fun v hv => ?_)
    · have hk : k ∈ sK c.1 (keyP z) := hk
      unfold sK at hk
      cases hi : isK c.1 (keyP z) with
      | true => rw [hi] at hk; exact h1 k hk
      | false =>
        rw [hi] at hk
        rcases mem_insB hk with h | rfl
        · exact h1 k h
        · exact keyP_64 z
    · have hv : v ∈ sV c.1 c.2 (keyP z) (valP z) := hv
      unfold sV at hv
      cases hi : isK c.1 (keyP z) with
      | true =>
        rw [hi] at hv
        rcases List.mem_or_eq_of_mem_set hv with h | rfl
        · exact h2 v h
        · exact valP_okB z
      | false =>
        rw [hi] at hv
        rcases mem_insB hv with h | rfl
        · exact h2 v h
        · exact valP_okB z
/-- A leaf, an inner node, of a size that is known. -/
def LfB (ks : List ByteArray) (vs : List R33) : Prop := vs.length = ks.length ∧ ks.length ≤ 40 ∧ (∀ k ∈ ks, k.size ≤ 64) ∧ ∀ v ∈ vs, VokB v
def LiB (ks : List ByteArray) (ki : List Int) : Prop := ki.length = ks.length + 1 ∧ ks.length ≤ 40 ∧ (∀ k ∈ ks, k.size ≤ 64) ∧ ∀ n ∈ ki, 0 ≤ n ∧ n ≤ 16383
theorem lf_okB (l : List R24) : LfB (lfP l).1 (lfP l).2 := by
  obtain ⟨⟨h1, h2, h3⟩, h4⟩ := lfP_ok l
  obtain ⟨h5, h6⟩ := fold_allB (l.take 40) ([], []) (by simp) (by simp)
  exact ⟨h1.symm, by omega, h5, h6⟩
theorem li_okB (l : List R24) : LiB (lfP l).1 (inI l (lfP l).1.length) := by
  obtain ⟨h1, h2, h3, h4⟩ := lf_okB l
  have h6 := lfP_len l
  refine ⟨?_, h2, h3, fun n hn => ?_⟩
  · unfold inI
    rw [List.length_cons, List.length_map, List.length_take]
    omega
  · unfold inI at hn
    rw [List.mem_cons, List.mem_map] at hn
    rcases hn with rfl | ⟨z, _, rfl⟩
    · decide
    · exact pgI_bdB z
theorem LfB.sm {ks : List ByteArray} {vs : List R33} (h : LfB ks vs) : (nL ks vs).Sm ∧ (∀ x ∈ (nL ks vs).szs, 0 ≤ x ∧ x ≤ 115) := by
  obtain ⟨h1, h2, h3, h4⟩ := h
  have hok : (nL ks vs).Ok := by
    refine ⟨by show ks.length ≤ _; omega, fun k hk => ?_, fun v hv => ?_, fun _ => h1, fun h => by cases h⟩
    · have := h3 k hk; unfold Sz; omega
    · have := h4 v hv
      unfold Sz
      by_cases hp : 0 ≤ v.Page
      · have := (this.1 hp).2.2.2; omega
      · have := this.2 (by omega); omega
  have hp : ∀ p ∈ (nL ks vs).pcs, p.size ≤ 115 := by
    intro p hp
    have hp : p ∈ List.zipWith entB ks vs := hp
    obtain ⟨i, hi, rfl⟩ := List.mem_iff_getElem.1 hp
    rw [List.getElem_zipWith]
    exact entB_115 (h3 _ (List.getElem_mem _)) (h4 _ (List.getElem_mem _))
  refine ⟨⟨hok, fun p hp' => by have := hp p hp'; omega, by show ks.length ≤ 1000; omega⟩, fun x hx => ?_⟩
  unfold N3.szs at hx
  rw [List.mem_map] at hx
  obtain ⟨p, hp', rfl⟩ := hx
  have := hp p hp'
  omega
theorem LiB.sm {ks : List ByteArray} {ki : List Int} (h : LiB ks ki) : (nI ks ki).Sm ∧ (∀ x ∈ (nI ks ki).szs, 0 ≤ x ∧ x ≤ 67) := by
  obtain ⟨h1, h2, h3, h4⟩ := h
  have hok : (nI ks ki).Ok := by
    refine ⟨by show ks.length ≤ _; omega, fun k hk => ?_, fun v hv => ?_, (fun h => by cases h), fun _ => h1⟩
    · have := h3 k hk; unfold Sz; omega
    · have hv : v ∈ ([] : List R33) := hv; cases hv
  have hp : ∀ p ∈ (nI ks ki).pcs, p.size ≤ 67 := by
    intro p hp
    have hp : p ∈ List.zipWith lnkB ks (ki.drop 1) := hp
    obtain ⟨i, hi, rfl⟩ := List.mem_iff_getElem.1 hp
    rw [List.getElem_zipWith]
    have := h4 _ (List.mem_of_mem_drop (List.getElem_mem (l := ki.drop 1) (n := i) (by rw [List.length_zipWith] at hi; omega)))
    exact (lnkB_67 (h3 _ (List.getElem_mem _)) this.1 this.2).1
  refine ⟨⟨hok, fun p hp' => by have := hp p hp'; omega, by show ks.length ≤ 1000; omega⟩, fun x hx => ?_⟩
  unfold N3.szs at hx
  rw [List.mem_map] at hx
  obtain ⟨p, hp', rfl⟩ := hx
  have := hp p hp'
  omega
theorem foldl_app_size : ∀ (l : List ByteArray) (h : ByteArray), ((l.foldl (· ++ ·) h).size : Int) = h.size + (l.map fun p => (p.size : Int)).sum
  | [], h => by simp
  | p :: l, h => by
    rw [List.foldl_cons, foldl_app_size l (h ++ p), app_size, List.map_cons, List.sum_cons]
    omega
theorem put_size (n : N3) : (n.put.size : Int) = n.hd.size + n.szs.sum := foldl_app_size _ _
theorem hd_L {ks : List ByteArray} {vs : List R33} (h : ks.length < 128) : (nL ks vs).hd.size = 1 := by
  show (numB (IntKind.u64.wrap (ks.length : Int))).size = 1
  exact numB_1 (by omega) (by omega)
theorem hd_I {ks : List ByteArray} {ki : List Int} (h : ks.length < 128) (h0 : 0 ≤ ki.headD 0) (h1 : ki.headD 0 ≤ 16383) : (nI ks ki).hd.size ≤ 3 ∧ (nI ks ki).hd.size = 1 + (numB (IntKind.u64.wrap (ki.headD 0))).size := by
  have e : (nI ks ki).hd = numB (IntKind.u64.wrap (ks.length : Int)) ++ numB (IntKind.u64.wrap (ki.headD 0)) := rfl
  have := numB_1 (v := (ks.length : Int)) (by omega) (by omega)
  have := numB_2 h0 (by omega)
  rw [e, app_size]
  omega
theorem LiB.hd {ks : List ByteArray} {ki : List Int} (h : LiB ks ki) : (nI ks ki).hd.size ≤ 3 := by
  obtain ⟨h1, h2, h3, h4⟩ := h
  cases ki with
  | nil => simp at h1
  | cons x l => exact (hd_I (ks := ks) (ki := x :: l) (by omega) (h4 x List.mem_cons_self).1 (h4 x List.mem_cons_self).2).1
theorem szs_len {n : N3} (h : n.Ok) : n.szs.length = n.K.length := by unfold N3.szs; rw [List.length_map, h.pcs]
/-- The place at which a leaf that is too great is parted. -/
theorem ptL {ks : List ByteArray} {vs : List R33} (h : LfB ks vs) (hs : 237 < (nL ks vs).put.size) : ∃ a : Nat, PyeL ks vs a ∧ (∀ j, 1 ≤ j → j + 1 ≤ ks.length → costP (nL ks vs).szs 0 a ≤ costP (nL ks vs).szs 0 j) := by
  obtain ⟨h1, h2⟩ := h.sm
  have hl : (nL ks vs).szs.length = ks.length := szs_len h1.1
  have hp := put_size (nL ks vs)
  have hh := hd_L (ks := ks) (vs := vs) (by have := h.2.1; omega)
  have hb := sum_le (z := (nL ks vs).szs) (B := 115) fun x hx => (h2 x hx).2
  obtain ⟨a, e, a1, a2, a3, a4⟩ := pk_place (z := (nL ks vs).szs) (g := 0) (fun x hx => (h2 x hx).1) (by omega)
  refine ⟨a, ⟨h1, hs, ?_, a1, by omega⟩, fun j j1 j2 => a3 j j1 (by omega)⟩
  show (pkP (costP (nL ks vs).szs (gP true)) _).2 = _
  exact congrArg Prod.snd e
theorem ptI {ks : List ByteArray} {ki : List Int} (h : LiB ks ki) (hs : 237 < (nI ks ki).put.size) : ∃ a : Nat, PyeI ks ki a ∧ (∀ j, 1 ≤ j → j + 1 ≤ ks.length → costP (nI ks ki).szs 1 a ≤ costP (nI ks ki).szs 1 j) := by
  obtain ⟨h1, h2⟩ := h.sm
  have hl : (nI ks ki).szs.length = ks.length := szs_len h1.1
  have hp := put_size (nI ks ki)
  have hh := h.hd
  have hb := sum_le (z := (nI ks ki).szs) (B := 67) fun x hx => (h2 x hx).2
  obtain ⟨a, e, a1, a2, a3, a4⟩ := pk_place (z := (nI ks ki).szs) (g := 1) (fun x hx => (h2 x hx).1) (by omega)
  have a5 := pk_place1 (z := (nI ks ki).szs) (fun x hx => (h2 x hx).1) (B := 67) (fun x hx => (h2 x hx).2) (by omega) (by omega) a a1 a2 a4
  refine ⟨a, ⟨h1, hs, ?_, a1, by omega⟩, fun j j1 j2 => a3 j j1 (by omega)⟩
  show (pkP (costP (nI ks ki).szs (gP false)) _).2 = _
  exact congrArg Prod.snd e
end Go.Proofs.Ytmcflglkfgnbbaa.Nd

/- Parts of a node: the law's function is true, for each input. -/
namespace Go.Proofs.Ytmcflglkfgnbbaa.Nd
open Go Go.RowKit Go.Proofs.Ytmcflglkfgnbbaa.Eng
set_option linter.unusedVariables false
set_option linter.unusedSimpArgs false
set_option maxRecDepth 20000
set_option pp.fieldNotation false
theorem cvB_n3 (L : Bool) (ks : List ByteArray) (vs : List R33) (ki : List Int) : N4.n3 ⟨L, ks, vs.map cvR, ki⟩ = ⟨L, ks, vs, ki⟩ := refP_n3 L ks vs ki
theorem p16_B {n : N4} (h1 : n.K.length ≤ 1000000) (h2 : n.V.length ≤ 1000000) (h3 : n.I.length ≤ 1000000) : P16 n n 0 := ⟨rfl, rfl, by omega, by omega, by omega⟩
def P5 (l : List R24) (b : Bool) (x : List R24 × Bool) : Prop := x = (l, b)
noncomputable instance (l : List R24) (b : Bool) : DecidablePred (P5 l b) := fun _ => Classical.propDecidable _
noncomputable def sLaw5 (l : List R24) (b : Bool) : Spc U := .of d18 (P5 l b) (fun _ => []) fun _ => .v (.bool true)
theorem beq_self8 (l : List UInt8) : List.beq l l = true := beq_self_eq_true (α := List UInt8) l
theorem smE (b : Bool) (ki : List Int) (hk : b = false → ki.length = 1) : (N3.mk b [] [] ki).Sm := ⟨⟨by simp, by simp, by simp, fun _ => rfl, fun h => hk h⟩, by cases b <;> simp [N3.pcs, pcs], by simp⟩
theorem sLaw5E1 (l : List R24) (he : (lfP l).1 = []) : SpecOk Try.prog 5 (sLaw5 l true) := by
  refine fn_ok X_ok mixed (E5_ok sEiE1_ok sParE2_ok sAtN_ok sJoiL_ok) an0 lp0 Try.func5 (by kernel_rfl) (by kernel_rfl) (lp0_ok (by kernel_rfl)) fun objs args x hx hp => ?_
  obtain rfl : x = (l, true) := hp
  obtain ⟨rfl, rfl⟩ := d18_ok hx
  have c1 : PnoE true [] := ⟨smE true [] (by simp), by
    have := put_size (N3.mk true [] [] [])
    have h2 := hd_L (ks := []) (vs := []) (by simp)
    have h3 : (N3.mk true [] [] []).szs.sum = 0 := rfl
    have h2 : (N3.mk true [] [] []).hd.size = 1 := h2
    omega⟩
  refine (e5E1 l).trans ?_
  rw [if_pos (show PeE true (l, true) from ⟨rfl, he⟩), if_pos (show PatN ⟨true, [], List.map cvR [], []⟩ from c1), if_pos c1, beq_self8, cond_true]
  exact if_pos (p16_B (by simp) (by simp) (by simp))
theorem sLaw5E2 (l : List R24) (he : (lfP l).1 = []) : SpecOk Try.prog 5 (sLaw5 l false) := by
  refine fn_ok X_ok mixed (E5_ok sEiE2_ok sParE1_ok sAtN_ok sJoiL_ok) an0 lp0 Try.func5 (by kernel_rfl) (by kernel_rfl) (lp0_ok (by kernel_rfl)) fun objs args x hx hp => ?_
  obtain rfl : x = (l, false) := hp
  obtain ⟨rfl, rfl⟩ := d18_ok hx
  have c1 : PnoE false [5] := ⟨smE false [5] (by simp), by
    have := put_size (N3.mk false [] [] [5])
    have h2 := hd_I (ks := []) (ki := [5]) (by simp) (by decide) (by decide)
    have h3 : (N3.mk false [] [] [5]).szs.sum = 0 := rfl
    have h2 : (N3.mk false [] [] [5]).hd.size ≤ 3 := h2.1
    omega⟩
  refine (e5E2 l).trans ?_
  rw [if_pos (show PeE false (l, false) from ⟨rfl, he⟩), if_pos (show PatN ⟨false, [], List.map cvR [], [5]⟩ from c1), if_pos (⟨c1, by decide⟩ : PnoE false [5] ∧ 0 < 1), beq_self8, cond_true]
  exact if_pos (p16_B (by simp) (by simp) (by show (5 :: ([] : List Int)).length ≤ _; simp))
theorem sLaw5L1 (l : List R24) (h0 : 0 < (lfP l).1.length) (hs : (nL (lfP l).1 (lfP l).2).put.size ≤ 237) : SpecOk Try.prog 5 (sLaw5 l true) := by
  have hb := lf_okB l
  refine fn_ok X_ok mixed (E5_ok (sEiL_ok (lfP l).1 (lfP l).2) sParL1_ok sAtN_ok sJoiL_ok) an0 lp0 Try.func5 (by kernel_rfl) (by kernel_rfl) (lp0_ok (by kernel_rfl)) fun objs args x hx hp => ?_
  obtain rfl : x = (l, true) := hp
  obtain ⟨rfl, rfl⟩ := d18_ok hx
  have e := e5L1 l (lfP l).1 (lfP l).2
  have hpe : PeL (lfP l).1 (lfP l).2 (l, true) := ⟨rfl, rfl, rfl, h0⟩
  generalize (lfP l).1 = ks at *
  generalize (lfP l).2 = vs at *
  have hb' : LfB ks vs := hb
  obtain ⟨b1, b2, _⟩ := hb
  rw [cS_eq h0, cV_eq (l := vs) (by omega), cS_eq h0, cV_eq (l := vs) (by omega)] at e
  have c1 : PreRf vs.length := by unfold PreRf; omega
  refine e.trans ?_
  rw [if_pos hpe, if_pos c1, if_pos (show PatN ⟨true, ks, vs.map cvR, []⟩ by unfold PatN; rw [cvB_n3]; exact ⟨hb'.sm.1, hs⟩), if_pos (⟨rfl, hb'.sm.1, hs, h0⟩ : true = true ∧ PnoL ks vs), beq_self8, cond_true, if_pos c1, if_pos c1]
  exact if_pos (p16_B (by show ks.length ≤ _; omega) (by show (vs.map cvR).length ≤ _; rw [List.length_map]; omega) (by simp))
theorem sLaw5I1 (l : List R24) (h0 : 0 < (lfP l).1.length) (hs : (nI (lfP l).1 (inI l (lfP l).1.length)).put.size ≤ 237) : SpecOk Try.prog 5 (sLaw5 l false) := by
  have hb := li_okB l
  refine fn_ok X_ok mixed (E5_ok (sEiI_ok (lfP l).1 (inI l (lfP l).1.length)) sParI1_ok sAtN_ok sJoiL_ok) an0 lp0 Try.func5 (by kernel_rfl) (by kernel_rfl) (lp0_ok (by kernel_rfl)) fun objs args x hx hp => ?_
  obtain rfl : x = (l, false) := hp
  obtain ⟨rfl, rfl⟩ := d18_ok hx
  have e := e5I1 l (lfP l).1 (inI l (lfP l).1.length)
  have hpe : PeI (lfP l).1 (inI l (lfP l).1.length) (l, false) := ⟨rfl, rfl, rfl, h0⟩
  generalize inI l (lfP l).1.length = ki at *
  generalize (lfP l).1 = ks at *
  have hb' := hb
  obtain ⟨b1, b2, _⟩ := hb'
  rw [cS_eq h0, cI_eq (l := ki) (by omega), cS_eq h0, cI_eq (l := ki) (by omega)] at e
  have c1 : PreRf 0 := by unfold PreRf; omega
  refine e.trans ?_
  rw [if_pos hpe, if_pos c1, if_pos (show PatN ⟨false, ks, [].map cvR, ki⟩ by unfold PatN; rw [cvB_n3]; exact ⟨hb.sm.1, hs⟩), if_pos (⟨rfl, hb.sm.1, hs, h0⟩ : false = false ∧ PnoI ks ki), beq_self8, cond_true, if_pos c1, if_pos c1]
  exact if_pos (p16_B (by show ks.length ≤ _; omega) (by simp) (by show ki.length ≤ _; omega))
theorem sLaw5L2 (l : List R24) (hs : 237 < (nL (lfP l).1 (lfP l).2).put.size) : SpecOk Try.prog 5 (sLaw5 l true) := by
  have hb := lf_okB l
  obtain ⟨a, hpy, _⟩ := ptL hb hs
  refine fn_ok X_ok mixed (E5_ok (sEiL_ok (lfP l).1 (lfP l).2) (sParL2_ok a) sAtY_ok sJoiL_ok) an0 lp0 Try.func5 (by kernel_rfl) (by kernel_rfl) (lp0_ok (by kernel_rfl)) fun objs args x hx hp => ?_
  obtain rfl : x = (l, true) := hp
  obtain ⟨rfl, rfl⟩ := d18_ok hx
  have e := e5L2 l (lfP l).1 (lfP l).2 a
  obtain ⟨p1, p2, p3, p4, p5⟩ := hpy
  have h0 : 0 < (lfP l).1.length := by omega
  have hpe : PeL (lfP l).1 (lfP l).2 (l, true) := ⟨rfl, rfl, rfl, h0⟩
  generalize (lfP l).1 = ks at *
  generalize (lfP l).2 = vs at *
  have hb' : LfB ks vs := hb
  obtain ⟨b1, b2, _⟩ := hb
  have t1 : (ks.take a).length = a := by rw [List.length_take]; omega
  have t2 : (vs.take a).length = a := by rw [List.length_take]; omega
  have t3 : (ks.drop a).length = ks.length - a := by rw [List.length_drop]
  have t4 : (vs.drop a).length = vs.length - a := by rw [List.length_drop]
  rw [cS_eq (l := ks) h0, cV_eq (l := vs) (by omega), cS_eq (l := ks.take a) (by omega), cS_eq (l := ks.drop a) (by omega), cV_eq (l := vs.take a) (by omega), cV_eq (l := vs.drop a) (by omega), List.take_append_drop, List.take_append_drop, cvB_n3] at e
  have p3 : N3.pt ⟨true, ks, vs, []⟩ = a := p3
  obtain ⟨z, hz, _⟩ := getE (l := ks) (v := (a : Int)) (by omega) (by omega)
  have c1 : PreRf vs.length := by unfold PreRf; omega
  rw [p3, hz] at e
  refine e.trans ?_
  rw [if_pos hpe, if_pos c1, if_pos (show PatY ⟨true, ks, vs.map cvR, []⟩ by unfold PatY; rw [cvB_n3]; exact ⟨p1, hs⟩), if_pos (⟨rfl, p1, hs, p3, p4, p5⟩ : true = true ∧ PyeL ks vs a), decide_eq_false (by omega), cond_false, Option.bind_some]
  dsimp only [Option.getD_some]
  rw [beq_self_eq_true, Bool.not_true, cond_false, t1, decide_eq_true rfl, Bool.not_true, cond_false, if_pos (show PJ true true true a (ks.drop a).length (vs.take a).length (vs.drop a).length by rw [t2, t3, t4]; exact ⟨rfl, rfl, ⟨by omega, by omega⟩, ⟨by omega, by omega⟩, ⟨by omega, by omega⟩, ⟨by omega, by omega⟩⟩), if_pos c1, if_pos c1,
    if_pos (p16_B (n := ⟨true, ks, vs.map cvR, []⟩) (by show ks.length ≤ _; omega) (by show (vs.map cvR).length ≤ _; rw [List.length_map]; omega) (by simp)), t3, wr (a := (ks.length : Int) - a) (by omega) (by omega), decide_eq_true (by omega)]
  rfl
theorem sLaw5I2 (l : List R24) (hs : 237 < (nI (lfP l).1 (inI l (lfP l).1.length)).put.size) : SpecOk Try.prog 5 (sLaw5 l false) := by
  have hb := li_okB l
  obtain ⟨a, hpy, _⟩ := ptI hb hs
  refine fn_ok X_ok mixed (E5_ok (sEiI_ok (lfP l).1 (inI l (lfP l).1.length)) (sParI2_ok a) sAtY_ok sJoiI_ok) an0 lp0 Try.func5 (by kernel_rfl) (by kernel_rfl) (lp0_ok (by kernel_rfl)) fun objs args x hx hp => ?_
  obtain rfl : x = (l, false) := hp
  obtain ⟨rfl, rfl⟩ := d18_ok hx
  have e := e5I2 l (lfP l).1 (inI l (lfP l).1.length) a
  obtain ⟨p1, p2, p3, p4, p5⟩ := hpy
  have h0 : 0 < (lfP l).1.length := by omega
  have hpe : PeI (lfP l).1 (inI l (lfP l).1.length) (l, false) := ⟨rfl, rfl, rfl, h0⟩
  generalize inI l (lfP l).1.length = ki at *
  generalize (lfP l).1 = ks at *
  have hb' := hb
  obtain ⟨b1, b2, _⟩ := hb'
  have t1 : (ks.take a).length = a := by rw [List.length_take]; omega
  have t2 : (ki.take (a + 1)).length = a + 1 := by rw [List.length_take]; omega
  have t3 : (ks.drop (a + 1)).length = ks.length - (a + 1) := by rw [List.length_drop]
  have t4 : (ki.drop (a + 1)).length = ki.length - (a + 1) := by rw [List.length_drop]
  obtain ⟨z, hz, hz2⟩ := getE (l := ks) (v := (a : Int)) (by omega) (by omega)
  have hz2 : ks[a]? = some z := hz2
  have hjoin : ks.take a ++ [z] ++ ks.drop (a + 1) = ks := by
    have e1 : ks.take a ++ [z] = ks.take (a + 1) := by rw [List.take_add_one, hz2]; rfl
    rw [e1, List.take_append_drop]
  rw [cS_eq (l := ks) h0, cI_eq (l := ki) (by omega), cS_eq (l := ks.take a) (by omega), cS_eq (l := ks.drop (a + 1)) (by omega), cI_eq (l := ki.take (a + 1)) (by omega), cI_eq (l := ki.drop (a + 1)) (by omega), List.take_append_drop, cvB_n3] at e
  have p3 : N3.pt ⟨false, ks, [], ki⟩ = a := p3
  have c1 : PreRf 0 := by unfold PreRf; omega
  rw [p3, hz] at e
  simp only [Option.getD_some] at e
  rw [hjoin] at e
  refine e.trans ?_
  rw [if_pos hpe, if_pos c1, if_pos (show PatY ⟨false, ks, [].map cvR, ki⟩ by unfold PatY; rw [cvB_n3]; exact ⟨p1, hs⟩), if_pos (⟨trivial, p1, hs, p3, p4, p5⟩ : True ∧ PyeI ks ki a), decide_eq_false (by omega), cond_false, Option.bind_some]
  rw [beq_self_eq_true, Bool.not_true, cond_false, t1, decide_eq_true rfl, Bool.not_true, cond_false, if_pos (show PJ false false false a (ks.drop (a + 1)).length (ki.take (a + 1)).length (ki.drop (a + 1)).length by rw [t2, t3, t4]; exact ⟨rfl, rfl, ⟨by omega, by omega⟩, ⟨by omega, by omega⟩, ⟨by omega, by omega⟩, ⟨by omega, by omega⟩⟩), if_pos c1, if_pos c1,
    if_pos (p16_B (n := ⟨false, ks, [].map cvR, ki⟩) (by show ks.length ≤ _; omega) (by simp) (by show ki.length ≤ _; omega)), t3, wr (a := (ks.length : Int) - a) (by omega) (by omega), wr (a := (ks.length : Int) - a - 1) (by omega) (by omega), decide_eq_true (by omega)]
theorem sLaw5_ok (l : List R24) (b : Bool) : SpecOk Try.prog 5 (sLaw5 l b) := by
  cases b with
  | true =>
    by_cases h0 : 0 < (lfP l).1.length
    · by_cases hs : (nL (lfP l).1 (lfP l).2).put.size ≤ 237
      · exact sLaw5L1 l h0 hs
      · exact sLaw5L2 l (by omega)
    · exact sLaw5E1 l (List.eq_nil_of_length_eq_zero (by omega))
  | false =>
    by_cases h0 : 0 < (lfP l).1.length
    · by_cases hs : (nI (lfP l).1 (inI l (lfP l).1.length)).put.size ≤ 237
      · exact sLaw5I1 l h0 hs
      · exact sLaw5I2 l (by omega)
    · exact sLaw5E2 l (List.eq_nil_of_length_eq_zero (by omega))
theorem law5 (l : List R24) (b : Bool) : HCall Try.prog 5 [] [.lst 4 (l.map encS_t24), .v (.bool b)] [] (.v (.bool true)) :=
  ((sLaw5_ok l b).ok [] [.lst .t24 l, .v (.bool b)] [] (.v (.bool true)) (if_pos (show P5 l b (l, b) from rfl)) rfl rfl rfl).1
end Go.Proofs.Ytmcflglkfgnbbaa.Nd

