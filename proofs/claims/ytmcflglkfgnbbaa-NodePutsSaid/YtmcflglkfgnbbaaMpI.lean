/- Texts of this claim, put together: part 9. -/
import Derived.Test.YtmcflglkfgnbbaaMpH
/- Nodes as bytes: what stands behind a key. -/
namespace Go.Proofs.Ytmcflglkfgnbbaa.Nd
open Go Go.RowKit Go.Proofs.Ytmcflglkfgnbbaa.Eng
set_option linter.unusedVariables false
set_option linter.unusedSimpArgs false
set_option maxRecDepth 20000
def Et : FuncId → Option (Spc U)
  | 46 => some sNum
  | 78 => some sText
  | _ => none
theorem Et_ok : ∀ f S, Et f = some S → SpecOk Try.prog f S := fun f S h => by
  unfold Et at h
  split at h
  · cases h; exact sNum_ok
  · cases h; exact sText_ok
  · cases h
def Eu : FuncId → Option (Spc U)
  | 58 => some sNumR
  | 80 => some sTextR
  | _ => none
theorem Eu_ok : ∀ f S, Eu f = some S → SpecOk Try.prog f S := fun f S h => by
  unfold Eu at h
  split at h
  · cases h; exact sNumR_ok
  · cases h; exact sTextR_ok
  · cases h
def R33.vV (v : R33) : TV U := .agg [.v (.string v.Data), .v (.int .i64 v.Page), .v (.int .i64 v.Len)]
theorem e47 (k : ByteArray) (v : R33) : (evFn X Et an0 lp0 Try.f47 [] [TV.v (Value.string k), v.vV]
  fun (o : List (TO X.U)) (v : TV X.U) => some (o, v)) =
  bif decide (0 ≤ v.Page) then
  if Sz k.size then
    if (textB k).size + (⟨#[1]⟩ : ByteArray).size ≤ 9223372036854775807 then
      if U64 (IntKind.u64.wrap v.Page) then
        if (textB k ++ (⟨#[1]⟩ : ByteArray)).size + (numB (IntKind.u64.wrap v.Page)).size ≤ 9223372036854775807 then
          if U64 (IntKind.u64.wrap v.Len) then
            if
                (textB k ++ (⟨#[1]⟩ : ByteArray) ++ numB (IntKind.u64.wrap v.Page)).size +
                    (numB (IntKind.u64.wrap v.Len)).size ≤
                  9223372036854775807 then
              some
                ([],
                  TV.v
                    (Value.string
                      (textB k ++ (⟨#[1]⟩ : ByteArray) ++ numB (IntKind.u64.wrap v.Page) ++ numB (IntKind.u64.wrap v.Len))))
            else none
          else none
        else none
      else none
    else none
  else none
else
  if Sz k.size then
    if (textB k).size + (⟨#[0]⟩ : ByteArray).size ≤ 9223372036854775807 then
      if Sz v.Data.size then
        if (textB k ++ (⟨#[0]⟩ : ByteArray)).size + (textB v.Data).size ≤ 9223372036854775807 then
          some ([], TV.v (Value.string (textB k ++ (⟨#[0]⟩ : ByteArray) ++ textB v.Data)))
        else none
      else none
    else none
  else none := by kernel_rfl
theorem e48 (k : ByteArray) (n : Int) : (evFn X Et an0 lp0 Try.f48 []
  [TV.v (Value.string k), TV.v (Value.int IntKind.i64 n)] fun (o : List (TO X.U)) (v : TV X.U) => some (o, v)) =
  if Sz k.size then
  if U64 (IntKind.u64.wrap n) then
    if (textB k).size + (numB (IntKind.u64.wrap n)).size ≤ 9223372036854775807 then
      some ([], TV.v (Value.string (textB k ++ numB (IntKind.u64.wrap n))))
    else none
  else none
else none := by kernel_rfl
theorem e59 (n : N4) (i : Int) : (evFn X Eu an0 lp0 Try.f59 [] [n.tv, TV.v (Value.int IntKind.i64 i)]
  fun (o : List (TO X.U)) (v : TV X.U) => some (o, v)) =
  (getI n.K i).bind fun (z : X.U.T C.str) =>
  if Sz (ByteArray.size z) then
    bif !n.L then
      (getI n.I (IntKind.i64.wrap (i + 1))).bind fun (z_1 : X.U.T C.i64) =>
        if U64 (IntKind.u64.wrap z_1) then
          if (textB z).size + (numB (IntKind.u64.wrap z_1)).size ≤ 9223372036854775807 then
            some ([], TV.v (Value.string (textB z ++ numB (IntKind.u64.wrap z_1))))
          else none
        else none
    else
      (getI n.V i).bind fun (z_1 : X.U.T C.t83) =>
        bif decide (0 ≤ z_1.Page) then
          if (textB z).size + (⟨#[1]⟩ : ByteArray).size ≤ 9223372036854775807 then
            (getI n.V i).bind fun (z_2 : X.U.T C.t83) =>
              if U64 (IntKind.u64.wrap z_2.Page) then
                if
                    (textB z ++ (⟨#[1]⟩ : ByteArray)).size + (numB (IntKind.u64.wrap z_2.Page)).size ≤
                      9223372036854775807 then
                  (getI n.V i).bind fun (z_3 : X.U.T C.t83) =>
                    if U64 (IntKind.u64.wrap z_3.Len) then
                      if
                          (textB z ++ (⟨#[1]⟩ : ByteArray) ++ numB (IntKind.u64.wrap z_2.Page)).size +
                              (numB (IntKind.u64.wrap z_3.Len)).size ≤
                            9223372036854775807 then
                        some
                          ([],
                            TV.v
                              (Value.string
                                (textB z ++ (⟨#[1]⟩ : ByteArray) ++ numB (IntKind.u64.wrap z_2.Page) ++
                                  numB (IntKind.u64.wrap z_3.Len))))
                      else none
                    else none
                else none
              else none
          else none
        else
          if (textB z).size + (⟨#[0]⟩ : ByteArray).size ≤ 9223372036854775807 then
            (getI n.V i).bind fun (z_2 : X.U.T C.t83) =>
              if Sz z_2.Data.size then
                if (textB z ++ (⟨#[0]⟩ : ByteArray)).size + (textB z_2.Data).size ≤ 9223372036854775807 then
                  some ([], TV.v (Value.string (textB z ++ (⟨#[0]⟩ : ByteArray) ++ textB z_2.Data)))
                else none
              else none
          else none
  else none := by kernel_rfl
theorem app_len (a b : ByteArray) : (a ++ b).size = a.size + b.size := app_size a b
theorem textB_size {s : ByteArray} (h : Sz s.size) : (textB s).size ≤ 100000010 := by
  have := numB_size (u64_wrap (s.size : Int))
  unfold Sz at h
  unfold textB
  rw [app_size]
  omega
/-- The bytes of what a leaf has at a place; of a page behind a key. -/
def entB (k : ByteArray) (v : R33) : ByteArray := cond (decide (0 ≤ v.Page)) (textB k ++ ⟨#[1]⟩ ++ numB (IntKind.u64.wrap v.Page) ++ numB (IntKind.u64.wrap v.Len)) (textB k ++ ⟨#[0]⟩ ++ textB v.Data)
def lnkB (k : ByteArray) (n : Int) : ByteArray := textB k ++ numB (IntKind.u64.wrap n)
theorem sz1 (b : UInt8) : (ByteArray.mk #[b]).size = 1 := rfl
theorem entB_size {k : ByteArray} {v : R33} (h : Sz k.size) (h2 : Sz v.Data.size) : (entB k v).size ≤ 300000000 := by
  have h3 := textB_size h
  have h4 := textB_size h2
  have h5 := numB_size (u64_wrap v.Page)
  have h6 := numB_size (u64_wrap v.Len)
  unfold entB
  cases decide (0 ≤ v.Page) <;> simp only [cond_true, cond_false, app_size, sz1] <;> omega
theorem lnkB_size {k : ByteArray} {n : Int} (h : Sz k.size) : (lnkB k n).size ≤ 300000000 := by
  have h3 := textB_size h
  have h5 := numB_size (u64_wrap n)
  unfold lnkB
  rw [app_size]
  omega
def PEnt (k d : Nat) : Prop := Sz k ∧ Sz d
instance (k d : Nat) : Decidable (PEnt k d) := by unfold PEnt; infer_instance
def dEnt (objs : List (TO U)) (args : List (TV U)) : Option (ByteArray × R33) := match objs, args with
  | [], [a0, a1] =>
    match a0 with
    | .v (.string k) =>
      match a1 with
      | .agg [q0, q1, q2] =>
        match q0 with
        | .v (.string v_Data) =>
          match q1 with
          | .v (.int .i64 v_Page) =>
            match q2 with
            | .v (.int .i64 v_Len) =>
              some (k, (⟨v_Data, v_Page, v_Len⟩ : R33))
            | _ => none
          | _ => none
        | _ => none
      | _ => none
    | _ => none
  | _, _ => none
theorem dEnt_ok {objs : List (TO U)} {args : List (TV U)} {k : ByteArray} {v : R33} (h : dEnt objs args = some (k, v)) : objs = [] ∧ args = [.v (.string k), v.vV] := by
  unfold dEnt at h
  repeat' split at h
  all_goals first | (cases h; done) | (cases h; exact ⟨rfl, rfl⟩)
def sEnt : Spc U := .of dEnt (fun (k, v) => PEnt k.size v.Data.size) (fun _ => []) fun (k, v) => .v (.string (entB k v))
theorem sEnt_ok : SpecOk Try.prog 47 sEnt := by
  refine fn_ok X_ok mixed Et_ok an0 lp0 Try.func47 (by kernel_rfl) (by kernel_rfl) (lp0_ok (by kernel_rfl)) fun objs args x hx hp => ?_
  obtain ⟨k, v⟩ := x
  obtain ⟨rfl, rfl⟩ := dEnt_ok hx
  obtain ⟨h1, h2⟩ := hp
  refine (e47 k v).trans ?_
  have h3 := textB_size h1
  have h4 := textB_size h2
  have h5 := numB_size (u64_wrap v.Page)
  have h6 := numB_size (u64_wrap v.Len)
  rw [if_pos h1, if_pos h2, if_pos (u64_wrap _), if_pos (u64_wrap _)]
  unfold entB
  simp only [app_size, sz1]
  cases decide (0 ≤ v.Page)
  · simp only [cond_false]
    rw [if_pos h1, if_pos (show (textB k).size + 1 ≤ 9223372036854775807 by omega), if_pos (show (textB k).size + 1 + (textB v.Data).size ≤ 9223372036854775807 by omega)]
  · simp only [cond_true]
    rw [if_pos (by omega), if_pos (by omega), if_pos (by omega)]
def dLnk (objs : List (TO U)) (args : List (TV U)) : Option (ByteArray × Int) := match objs, args with
  | [], [a0, a1] =>
    match a0 with
    | .v (.string k) =>
      match a1 with
      | .v (.int .i64 n) =>
        some (k, n)
      | _ => none
    | _ => none
  | _, _ => none
theorem dLnk_ok {objs : List (TO U)} {args : List (TV U)} {k : ByteArray} {n : Int} (h : dLnk objs args = some (k, n)) : objs = [] ∧ args = [.v (.string k), .v (.int .i64 n)] := by
  unfold dLnk at h
  repeat' split at h
  all_goals first | (cases h; done) | (cases h; exact ⟨rfl, rfl⟩)
def sLnk : Spc U := .of dLnk (fun (k, n) => Sz k.size) (fun _ => []) fun (k, n) => .v (.string (lnkB k n))
theorem sLnk_ok : SpecOk Try.prog 48 sLnk := by
  refine fn_ok X_ok mixed Et_ok an0 lp0 Try.func48 (by kernel_rfl) (by kernel_rfl) (lp0_ok (by kernel_rfl)) fun objs args x hx hp => ?_
  obtain ⟨k, n⟩ := x
  obtain ⟨rfl, rfl⟩ := dLnk_ok hx
  refine (e48 k n).trans ?_
  have h3 := textB_size hp
  have h5 := numB_size (u64_wrap n)
  rw [if_pos hp, if_pos (u64_wrap _), if_pos (by omega)]
  rfl
/-! ### Nodes -/
def cvB (v : R83) : R33 := ⟨v.Data, v.Page, v.Len⟩
theorem cvB_cvR (v : R33) : cvB (cvR v) = v := rfl
/-- What a node of so much is. -/
def Pn (L : Bool) (ks : List ByteArray) (vs : List R33) (ki : List Int) : Prop := ks.length ≤ 1000000 ∧ (∀ k ∈ ks, Sz k.size) ∧ (∀ v ∈ vs, Sz v.Data.size) ∧ (L = true → vs.length = ks.length) ∧ (L = false → ki.length = ks.length + 1)
noncomputable instance (L : Bool) (ks : List ByteArray) (vs : List R33) (ki : List Int) : Decidable (Pn L ks vs ki) := Classical.propDecidable _
def pcs (L : Bool) (ks : List ByteArray) (vs : List R33) (ki : List Int) : List ByteArray := cond L (List.zipWith entB ks vs) (List.zipWith lnkB ks (ki.drop 1))
def hdB (L : Bool) (ks : List ByteArray) (ki : List Int) : ByteArray := cond L (numB (IntKind.u64.wrap (ks.length : Int))) (numB (IntKind.u64.wrap (ks.length : Int)) ++ numB (IntKind.u64.wrap (ki.headD 0)))
def putB (L : Bool) (ks : List ByteArray) (vs : List R33) (ki : List Int) : ByteArray := (pcs L ks vs ki).foldl (· ++ ·) (hdB L ks ki)
theorem pcs_len {L : Bool} {ks : List ByteArray} {vs : List R33} {ki : List Int} (h : Pn L ks vs ki) : (pcs L ks vs ki).length = ks.length := by
  obtain ⟨_, _, _, h1, h2⟩ := h
  unfold pcs
  cases L
  · simp only [cond_false, List.length_zipWith, List.length_drop, h2 rfl]; omega
  · simp only [cond_true, List.length_zipWith, h1 rfl]; omega
theorem hdB_size (L : Bool) (ks : List ByteArray) (ki : List Int) : (hdB L ks ki).size ≤ 20 := by
  have h1 := numB_size (u64_wrap (ks.length : Int))
  have h2 := numB_size (u64_wrap (ki.headD 0))
  unfold hdB
  cases L <;> simp only [cond_true, cond_false, app_size] <;> omega
/-- A piece of a leaf; of an inner node. -/
theorem pcs_leaf {ks : List ByteArray} {vs : List R33} {ki : List Int} (h : Pn true ks vs ki) {v : Int} {z : ByteArray} (hz : getI (pcs true ks vs ki) v = some z) :
    ∃ k w, getI ks v = some k ∧ getI vs v = some w ∧ z = entB k w ∧ PEnt k.size w.Data.size ∧ z.size ≤ 300000000 := by
  unfold getI at hz ⊢
  split at hz
  · rename_i h0
    rw [if_pos h0, if_pos h0]
    unfold pcs at hz
    rw [cond_true, List.getElem?_zipWith_eq_some] at hz
    obtain ⟨k, w, h1, h2, rfl⟩ := hz
    have h3 := h.2.1 k (List.mem_of_getElem? h1)
    have h4 := h.2.2.1 w (List.mem_of_getElem? h2)
    exact ⟨k, w, h1, h2, rfl, ⟨h3, h4⟩, entB_size h3 h4⟩
  · cases hz
theorem pcs_inner {ks : List ByteArray} {vs : List R33} {ki : List Int} (h : Pn false ks vs ki) {v : Int} {z : ByteArray} (hz : getI (pcs false ks vs ki) v = some z) :
    ∃ k n, getI ks v = some k ∧ getI ki (v + 1) = some n ∧ z = lnkB k n ∧ Sz k.size ∧ z.size ≤ 300000000 := by
  unfold getI at hz ⊢
  split at hz
  · rename_i h0
    rw [if_pos h0, if_pos (by omega)]
    unfold pcs at hz
    rw [cond_false, List.getElem?_zipWith_eq_some] at hz
    obtain ⟨k, w, h1, h2, rfl⟩ := hz
    have h3 := h.2.1 k (List.mem_of_getElem? h1)
    rw [List.getElem?_drop, show 1 + v.toNat = (v + 1).toNat by omega] at h2
    exact ⟨k, w, h1, h2, rfl, h3, lnkB_size h3⟩
  · cases hz
end Go.Proofs.Ytmcflglkfgnbbaa.Nd

/- Nodes as bytes: Put. -/
namespace Go.Proofs.Ytmcflglkfgnbbaa.Nd
open Go Go.RowKit Go.Proofs.Ytmcflglkfgnbbaa.Eng
set_option linter.unusedVariables false
set_option linter.unusedSimpArgs false
set_option maxRecDepth 20000
def Ep : FuncId → Option (Spc U)
  | 46 => some sNum
  | 47 => some sEnt
  | 48 => some sLnk
  | _ => none
theorem Ep_ok : ∀ f S, Ep f = some S → SpecOk Try.prog f S := fun f S h => by
  unfold Ep at h
  split at h
  · cases h; exact sNum_ok
  · cases h; exact sEnt_ok
  · cases h; exact sLnk_ok
  · cases h
def an19 : Ann := ⟨fun | 0 => 458762 | 2 => 61572651155466 | _ => 0, fun | 0 => 12 | 2 => 12 | _ => 0, fun _ => [], false⟩
def an25 : Ann := ⟨fun | 0 => 26 | _ => 0, fun | 0 => 12 | _ => 0, fun _ => [], false⟩
def g19_S0 (L : Bool) (ks : List
  ByteArray) (vs : List
  R33) (ki : List
  Int) (v0 : ByteArray) (v3 : Int) : TS U := mkS 62
  [(1, TV.ref 0 0 0), (3, TV.v (Value.string v0)), (16, TV.lst C.str ks),
    (17, TV.v (Value.int IntKind.i64 (↑ks.length : Int))), (18, TV.v (Value.int IntKind.i64 v3))]
  [TO.cells [TV.v (Value.bool L), TV.lst C.str ks, TV.lst C.t33 vs, TV.lst C.i64 ki] false] 0
theorem g19_e0 (lp : Lp
  U) (L : Bool) (ks : List
  ByteArray) (vs : List
  R33) (ki : List
  Int) (N : Nat) (v0 : ByteArray) (v3 : Int) : fnLoop X Ep an19 lp Try.f19 0 N.succ (g19_S0 L ks vs ki v0 v3) =
  bif decide (v3 < (↑ks.length : Int)) then
  (getI ks v3).bind fun (z : X.U.T C.str) =>
    (getI vs v3).bind fun (z_1 : X.U.T C.t33) =>
      if PEnt (ByteArray.size z) z_1.Data.size then
        if v0.size + (entB z z_1).size ≤ 9223372036854775807 then
          fnLoop X Ep an19 lp Try.f19 0 N (g19_S0 L ks vs ki (v0 ++ entB z z_1) (IntKind.i64.wrap (v3 + 1)))
        else none
      else none
else some (Exit.exit 0, mkS 62 [(3, TV.v (Value.string v0))] [] 0) := by kernel_rfl
def g19_S2 (L : Bool) (ks : List
  ByteArray) (vs : List
  R33) (ki : List
  Int) (v0 : ByteArray) (v3 : Int) : TS U := mkS 62
  [(1, TV.ref 0 0 0), (3, TV.v (Value.string v0)), (43, TV.lst C.str ks),
    (44, TV.v (Value.int IntKind.i64 (↑ks.length : Int))), (45, TV.v (Value.int IntKind.i64 v3))]
  [TO.cells [TV.v (Value.bool L), TV.lst C.str ks, TV.lst C.t33 vs, TV.lst C.i64 ki] false] 0
theorem g19_e2 (lp : Lp
  U) (L : Bool) (ks : List
  ByteArray) (vs : List
  R33) (ki : List
  Int) (N : Nat) (v0 : ByteArray) (v3 : Int) : fnLoop X Ep an19 lp Try.f19 2 N.succ (g19_S2 L ks vs ki v0 v3) =
  bif decide (v3 < (↑ks.length : Int)) then
  (getI ks v3).bind fun (z : X.U.T C.str) =>
    (getI ki (IntKind.i64.wrap (v3 + 1))).bind fun (z_1 : X.U.T C.i64) =>
      if Sz (ByteArray.size z) then
        if v0.size + (lnkB z z_1).size ≤ 9223372036854775807 then
          fnLoop X Ep an19 lp Try.f19 2 N (g19_S2 L ks vs ki (v0 ++ lnkB z z_1) (IntKind.i64.wrap (v3 + 1)))
        else none
      else none
else some (Exit.exit 2, mkS 62 [(3, TV.v (Value.string v0))] [] 0) := by kernel_rfl
theorem fold_rounds {α β T B : Type} {fnl : Nat → T → Option B} (S : β → Int → T) (Z : β → B) (l : List α) (I : β → Int → Prop) (step : β → α → β)
    (hin : ∀ (N : Nat) (g : β) (v : Int) (z : α), I g v → 0 ≤ v → v < (l.length : Int) → getI l v = some z → fnl (N + 1) (S g v) = fnl N (S (step g z) (v + 1)) ∧ I (step g z) (v + 1))
    (hout : ∀ (N : Nat) (g : β) (v : Int), I g v → ¬ v < (l.length : Int) → fnl (N + 1) (S g v) = some (Z g)) :
    ∀ (N : Nat) (g : β) (v : Int), I g v → 0 ≤ v → (l.length : Int) ≤ v + N → fnl (N + 1) (S g v) = some (Z ((l.drop v.toNat).foldl step g)) := by
  intro N
  induction N with
  | zero =>
    intro g v hI h0 h1
    rw [hout 0 g v hI (by omega), List.drop_eq_nil_of_le (by omega)]
    rfl
  | succ N ih =>
    intro g v hI h0 h1
    by_cases hv : v < (l.length : Int)
    · obtain ⟨x, hx, hx2⟩ := getE (l := l) h0 hv
      obtain ⟨h2, h3⟩ := hin (N + 1) g v x hI h0 hv hx
      have ea : l.drop v.toNat = x :: l.drop (v.toNat + 1) := by
        rw [List.drop_eq_getElem_cons (by omega)]
        rw [List.getElem?_eq_getElem (by omega)] at hx2
        rw [Option.some.inj hx2]
      rw [h2, ih (step g x) (v + 1) h3 (by omega) (by omega), ea, show (v + 1).toNat = v.toNat + 1 by omega]
      rfl
    · rw [hout (N + 1) g v hI hv, List.drop_eq_nil_of_le (by omega)]
      rfl
/-- What stands in a node. -/
structure N3 where
  L : Bool
  K : List ByteArray
  V : List R33
  I : List Int
def N3.ob (n : N3) : TO U := .cells [.v (.bool n.L), .lst .str n.K, .lst .t33 n.V, .lst .i64 n.I] false
def N3.tv (n : N3) : TV U := .agg [.v (.bool n.L), .lst .str n.K, .lst .t33 n.V, .lst .i64 n.I]
def N3.Ok (n : N3) : Prop := Pn n.L n.K n.V n.I
noncomputable instance (n : N3) : Decidable n.Ok := Classical.propDecidable _
def N3.put (n : N3) : ByteArray := putB n.L n.K n.V n.I
def N3.pcs (n : N3) : List ByteArray := Nd.pcs n.L n.K n.V n.I
def N3.hd (n : N3) : ByteArray := hdB n.L n.K n.I
theorem N3.Ok.pcs {n : N3} (h : n.Ok) : n.pcs.length = n.K.length := pcs_len h
theorem N3.Ok.len {n : N3} (h : n.Ok) : n.K.length ≤ 1000000 := h.1
def Z19 (b : ByteArray) : TS U := mkS 62 [(3, .v (.string b))] [] 0
theorem rounds19a (lp : Lp U) (n : N3) (h : n.Ok) (hL : n.L = true) : fnLoop X Ep an19 lp Try.f19 0 (n.pcs.length + 1) (g19_S0 n.L n.K n.V n.I n.hd 0) = some (.exit 0, Z19 n.put) := by
  have hl := h.pcs
  have hk := h.len
  obtain ⟨L, K, V, I⟩ := n
  obtain rfl : L = true := hL
  dsimp only at hl hk ⊢
  refine fold_rounds (fnl := fnLoop X Ep an19 lp Try.f19 0) (fun b v => g19_S0 true K V I b v) (fun b => ((.exit 0, Z19 b) : Exit × TS U)) (pcs true K V I) (fun b v => (b.size : Int) ≤ 20 + 300000000 * v) (· ++ ·) (fun N b v z hI h0 h1 hz => ?_) (fun N b v hI h1 => ?_) _ _ 0 (by
      have := hdB_size true K I
      show ((hdB true K I).size : Int) ≤ _
      omega) (Int.le_refl _) (by show ((pcs true K V I).length : Int) ≤ 0 + ((pcs true K V I).length : Nat); omega)
  · have hl : (pcs true K V I).length = K.length := hl
    obtain ⟨k, w, e1, e2, rfl, e3, e4⟩ := pcs_leaf h hz
    refine ⟨?_, by rw [app_size]; omega⟩
    rw [g19_e0, decide_eq_true (by omega), e1, e2]
    simp only [cond_true, Option.bind_some]
    rw [if_pos e3, if_pos (by omega), wr (by omega) (by omega)]
  · have hl : (pcs true K V I).length = K.length := hl
    rw [g19_e0, decide_eq_false (by omega)]
    rfl
theorem rounds19b (lp : Lp U) (n : N3) (h : n.Ok) (hL : n.L = false) : fnLoop X Ep an19 lp Try.f19 2 (n.pcs.length + 1) (g19_S2 n.L n.K n.V n.I n.hd 0) = some (.exit 2, Z19 n.put) := by
  have hl := h.pcs
  have hk := h.len
  obtain ⟨L, K, V, I⟩ := n
  obtain rfl : L = false := hL
  dsimp only at hl hk ⊢
  refine fold_rounds (fnl := fnLoop X Ep an19 lp Try.f19 2) (fun b v => g19_S2 false K V I b v) (fun b => ((.exit 2, Z19 b) : Exit × TS U)) (pcs false K V I) (fun b v => (b.size : Int) ≤ 20 + 300000000 * v) (· ++ ·) (fun N b v z hI h0 h1 hz => ?_) (fun N b v hI h1 => ?_) _ _ 0 (by
      have := hdB_size false K I
      show ((hdB false K I).size : Int) ≤ _
      omega) (Int.le_refl _) (by show ((pcs false K V I).length : Int) ≤ 0 + ((pcs false K V I).length : Nat); omega)
  · have hl : (pcs false K V I).length = K.length := hl
    obtain ⟨k, w, e1, e2, rfl, e3, e4⟩ := pcs_inner h hz
    refine ⟨?_, by rw [app_size]; omega⟩
    rw [g19_e2, decide_eq_true (by omega), e1]
    simp only [cond_true, Option.bind_some]
    rw [wr (a := v + 1) (by omega) (by omega), e2]
    simp only [Option.bind_some]
    rw [if_pos e3, if_pos (by omega)]
  · have hl : (pcs false K V I).length = K.length := hl
    rw [g19_e2, decide_eq_false (by omega)]
    rfl
def dl19a (s : TS U) : Option (N3 × ByteArray × List ByteArray × Int × Int) := match told s 62 [1, 3, 16, 17, 18] 0, s.objs with
  | some [a0, a1, a2, a3, a4], [o0] =>
    match o0 with
    | .cells [q0, q1, q2, q3] false =>
      match q0 with
      | .v (.bool n_L) =>
        match q1 with
        | .lst .str n_K =>
          match q2 with
          | .lst .t33 n_V =>
            match q3 with
            | .lst .i64 n_I =>
              match a0 with
              | .ref 0 0 0 =>
                match a1 with
                | .v (.string b) =>
                  match a2 with
                  | .lst .str ks =>
                    match a3 with
                    | .v (.int .i64 c) =>
                      match a4 with
                      | .v (.int .i64 v) =>
                        some ((⟨n_L, n_K, n_V, n_I⟩ : N3), b, ks, c, v)
                      | _ => none
                    | _ => none
                  | _ => none
                | _ => none
              | _ => none
            | _ => none
          | _ => none
        | _ => none
      | _ => none
    | _ => none
  | _, _ => none
theorem dl19a_ok {s : TS U} {n : N3} {b : ByteArray} {ks : List ByteArray} {c : Int} {v : Int} (h : dl19a s = some (n, b, ks, c, v)) : s = mkS (U := U) 62 ([1, 3, 16, 17, 18].zip ([.ref 0 0 0, .v (.string b), .lst .str ks, .v (.int .i64 c), .v (.int .i64 v)] : List (TV U))) ([n.ob] : List (TO U)) 0 := by
  unfold dl19a at h
  split at h <;> try (cases h; done)
  rename_i ht ho
  have hs := told_ok ht
  rw [ho] at hs
  repeat' split at h
  all_goals first | (cases h; done) | (cases h; exact hs)
def dl19b (s : TS U) : Option (N3 × ByteArray × List ByteArray × Int × Int) := match told s 62 [1, 3, 43, 44, 45] 0, s.objs with
  | some [a0, a1, a2, a3, a4], [o0] =>
    match o0 with
    | .cells [q0, q1, q2, q3] false =>
      match q0 with
      | .v (.bool n_L) =>
        match q1 with
        | .lst .str n_K =>
          match q2 with
          | .lst .t33 n_V =>
            match q3 with
            | .lst .i64 n_I =>
              match a0 with
              | .ref 0 0 0 =>
                match a1 with
                | .v (.string b) =>
                  match a2 with
                  | .lst .str ks =>
                    match a3 with
                    | .v (.int .i64 c) =>
                      match a4 with
                      | .v (.int .i64 v) =>
                        some ((⟨n_L, n_K, n_V, n_I⟩ : N3), b, ks, c, v)
                      | _ => none
                    | _ => none
                  | _ => none
                | _ => none
              | _ => none
            | _ => none
          | _ => none
        | _ => none
      | _ => none
    | _ => none
  | _, _ => none
theorem dl19b_ok {s : TS U} {n : N3} {b : ByteArray} {ks : List ByteArray} {c : Int} {v : Int} (h : dl19b s = some (n, b, ks, c, v)) : s = mkS (U := U) 62 ([1, 3, 43, 44, 45].zip ([.ref 0 0 0, .v (.string b), .lst .str ks, .v (.int .i64 c), .v (.int .i64 v)] : List (TV U))) ([n.ob] : List (TO U)) 0 := by
  unfold dl19b at h
  split at h <;> try (cases h; done)
  rename_i ht ho
  have hs := told_ok ht
  rw [ho] at hs
  repeat' split at h
  all_goals first | (cases h; done) | (cases h; exact hs)
def P19 (L : Bool) (n : N3) (b : ByteArray) (ks : List ByteArray) (c v : Int) : Prop := n.Ok ∧ n.L = L ∧ b = n.hd ∧ ks = n.K ∧ c = n.K.length ∧ v = 0
noncomputable instance (L : Bool) (n : N3) (b : ByteArray) (ks : List ByteArray) (c v : Int) : Decidable (P19 L n b ks c v) := Classical.propDecidable _
noncomputable def lc19a : LC U := .of dl19a (fun (n, b, ks, c, v) => P19 true n b ks c v) (.exit 0) (fun (n, b, ks, c, v) => Z19 n.put)
noncomputable def lc19b : LC U := .of dl19b (fun (n, b, ks, c, v) => P19 false n b ks c v) (.exit 2) (fun (n, b, ks, c, v) => Z19 n.put)
noncomputable def lp19 : Lp U := lpL [(0, lc19a), (2, lc19b)]
theorem lp19_ok : ∀ c, Try.f19.body = some c → LpOk X Ep an19 lp19 (loops c 0) := lpL_ok (by kernel_rfl) fun b L hm st p hs => by
  cases hm with
  | head =>
    obtain ⟨⟨n, b, ks, c, v⟩, hx, ⟨h1, h2, rfl, rfl, rfl, rfl⟩, rfl⟩ := LC.of_some hs
    obtain rfl := dl19a_ok hx
    exact ⟨_, rounds19a _ n h1 h2⟩
  | tail _ h =>
    cases h with
    | tail _ h => cases h
    | head =>
      obtain ⟨⟨n, b, ks, c, v⟩, hx, ⟨h1, h2, rfl, rfl, rfl, rfl⟩, rfl⟩ := LC.of_some hs
      obtain rfl := dl19b_ok hx
      exact ⟨_, rounds19b _ n h1 h2⟩
theorem e19 (n : N3) : (evFn X Ep an19 lp19 Try.f19 [] [n.tv] fun (o : List (TO X.U)) (v : TV X.U) => some (o, v)) =
  if U64 (IntKind.u64.wrap (↑n.K.length : Int)) then
  bif n.L then
    if P19 true n (numB (IntKind.u64.wrap (↑n.K.length : Int))) n.K (↑n.K.length : Int) 0 then
      some ([], TV.v (Value.string n.put))
    else none
  else
    (getI n.I 0).bind fun (z : X.U.T C.i64) =>
      if U64 (IntKind.u64.wrap z) then
        if
            (numB (IntKind.u64.wrap (↑n.K.length : Int))).size + (numB (IntKind.u64.wrap z)).size ≤
              9223372036854775807 then
          if
              P19 false n (numB (IntKind.u64.wrap (↑n.K.length : Int)) ++ numB (IntKind.u64.wrap z)) n.K
                (↑n.K.length : Int) 0 then
            some ([], TV.v (Value.string n.put))
          else none
        else none
      else none
else none := by kernel_rfl
theorem o19 {n : N3} (h : n.Ok) : evFn X Ep an19 lp19 Try.f19 [] [n.tv] (fun o v => some (o, v)) = some ([], .v (.string n.put)) := by
  rw [e19, if_pos (u64_wrap _)]
  have h' := h
  obtain ⟨_, _, _, h1, h2⟩ := h'
  cases hL : n.L with
  | true =>
    have e : n.hd = numB (IntKind.u64.wrap (n.K.length : Int)) := by unfold N3.hd hdB; rw [hL]; rfl
    rw [cond_true, if_pos ⟨h, hL, e.symm, rfl, rfl, rfl⟩]
  | false =>
    have h2 := h2 hL
    have h3 := numB_size (u64_wrap (n.K.length : Int))
    obtain ⟨z, hz, hz2⟩ := getE (l := n.I) (v := 0) (Int.le_refl _) (by omega)
    have h4 := numB_size (u64_wrap z)
    have e : n.hd = numB (IntKind.u64.wrap (n.K.length : Int)) ++ numB (IntKind.u64.wrap z) := by
      unfold N3.hd hdB
      rw [hL, cond_false]
      cases hI : n.I with
      | nil => rw [hI] at hz; cases hz
      | cons x l => rw [hI] at hz; cases hz; rfl
    rw [cond_false, hz, Option.bind_some, if_pos (u64_wrap _), if_pos (by omega), if_pos ⟨h, hL, e.symm, rfl, rfl, rfl⟩]
def dN3 (objs : List (TO U)) (args : List (TV U)) : Option (N3) := match objs, args with
  | [], [a0] =>
    match a0 with
    | .agg [q0, q1, q2, q3] =>
      match q0 with
      | .v (.bool n_L) =>
        match q1 with
        | .lst .str n_K =>
          match q2 with
          | .lst .t33 n_V =>
            match q3 with
            | .lst .i64 n_I =>
              some (⟨n_L, n_K, n_V, n_I⟩ : N3)
            | _ => none
          | _ => none
        | _ => none
      | _ => none
    | _ => none
  | _, _ => none
theorem dN3_ok {objs : List (TO U)} {args : List (TV U)} {n : N3} (h : dN3 objs args = some n) : objs = [] ∧ args = [n.tv] := by
  unfold dN3 at h
  repeat' split at h
  all_goals first | (cases h; done) | (cases h; exact ⟨rfl, rfl⟩)
noncomputable def sPut0 : Spc U := .of dN3 (fun n => n.Ok) (fun _ => []) fun n => .v (.string n.put)
theorem sPut0_ok : SpecOk Try.prog 19 sPut0 := by
  refine fn_ok X_ok mixed Ep_ok an19 lp19 Try.func19 (by kernel_rfl) (by kernel_rfl) lp19_ok fun objs args n hx hp => ?_
  obtain ⟨rfl, rfl⟩ := dN3_ok hx
  exact o19 hp
noncomputable def sPut : Spc U := sPut0.wkA [.a [.no, .l .str, .l .t33, .l .i64]]
theorem sPut_ok : SpecOk Try.prog 19 sPut := sPut0_ok.wkA _
end Go.Proofs.Ytmcflglkfgnbbaa.Nd

/- Nodes as bytes: the reference's Put. -/
namespace Go.Proofs.Ytmcflglkfgnbbaa.Nd
open Go Go.RowKit Go.Proofs.Ytmcflglkfgnbbaa.Eng
set_option linter.unusedVariables false
set_option linter.unusedSimpArgs false
set_option maxRecDepth 20000
def N4.n3 (n : N4) : N3 := ⟨n.L, n.K, n.V.map cvB, n.I⟩
def P59 (n : N4) (i : Int) : Prop := n.n3.Ok ∧ 0 ≤ i ∧ i < n.K.length
noncomputable instance (n : N4) (i : Int) : Decidable (P59 n i) := Classical.propDecidable _
def pcB (n : N4) (i : Int) : ByteArray := (getI n.n3.pcs i).getD .empty
theorem getI_map {α β : Type} {f : α → β} {l : List α} {i : Int} {z : β} (h : getI (l.map f) i = some z) : ∃ x, getI l i = some x ∧ z = f x := by
  unfold getI at h ⊢
  split at h
  · rename_i h0
    rw [if_pos h0]
    rw [List.getElem?_map, Option.map_eq_some_iff] at h
    obtain ⟨x, h1, rfl⟩ := h
    exact ⟨x, h1, rfl⟩
  · cases h
theorem o59 {n : N4} {i : Int} (h : P59 n i) : evFn X Eu an0 lp0 Try.f59 [] [n.tv, .v (.int .i64 i)] (fun o v => some (o, v)) = some ([], .v (.string (pcB n i))) := by
  obtain ⟨h1, h2, h3⟩ := h
  have hl := h1.pcs
  have hk := h1.len
  obtain ⟨z, hz, _⟩ := getE (l := n.n3.pcs) h2 (by rw [hl]; exact h3)
  have hp : pcB n i = z := by unfold pcB; rw [hz]; rfl
  rw [hp]
  obtain ⟨L, K, V, I⟩ := n
  have hk : K.length ≤ 1000000 := hk
  have h3 : i < (K.length : Int) := h3
  rw [e59]
  dsimp only
  cases L with
  | false =>
    obtain ⟨k, w, e1, e2, rfl, e3, e4⟩ := pcs_inner h1 hz
    have e1 : getI K i = some k := e1
    have e2 : getI I (i + 1) = some w := e2
    have := textB_size e3
    have := numB_size (u64_wrap w)
    rw [e1, Option.bind_some, if_pos e3, Bool.not_false, cond_true, wr (a := i + 1) (by omega) (by omega), e2, Option.bind_some, if_pos (u64_wrap _), if_pos (by omega)]
    rfl
  | true =>
    obtain ⟨k, w, e1, e2, rfl, ⟨e3, e5⟩, e4⟩ := pcs_leaf h1 hz
    have e1 : getI K i = some k := e1
    obtain ⟨u, e6, rfl⟩ := getI_map (l := V) e2
    have e5 : Sz u.Data.size := e5
    have h6 := textB_size e3
    have h7 := textB_size e5
    have h8 := numB_size (u64_wrap u.Page)
    have h9 := numB_size (u64_wrap u.Len)
    rw [e1, Option.bind_some, if_pos e3, Bool.not_true, cond_false, e6]
    simp only [Option.bind_some]
    unfold entB cvB
    dsimp only
    cases decide (0 ≤ u.Page)
    · simp only [cond_false, app_size, sz1, Option.bind_some]
      rw [if_pos (show (textB k).size + 1 ≤ 9223372036854775807 by omega), if_pos e5, if_pos (show (textB k).size + 1 + (textB u.Data).size ≤ 9223372036854775807 by omega)]
    · simp only [cond_true, app_size, sz1, Option.bind_some]
      rw [if_pos (show (textB k).size + 1 ≤ 9223372036854775807 by omega), if_pos (u64_wrap _), if_pos (show (textB k).size + 1 + (numB (IntKind.u64.wrap u.Page)).size ≤ 9223372036854775807 by omega), if_pos (u64_wrap _), if_pos (by omega)]
def d59 (objs : List (TO U)) (args : List (TV U)) : Option (N4 × Int) := match objs, args with
  | [], [a0, a1] =>
    match a0 with
    | .agg [q0, q1, q2, q3] =>
      match q0 with
      | .v (.bool n_L) =>
        match q1 with
        | .lst .str n_K =>
          match q2 with
          | .lst .t83 n_V =>
            match q3 with
            | .lst .i64 n_I =>
              match a1 with
              | .v (.int .i64 i) =>
                some ((⟨n_L, n_K, n_V, n_I⟩ : N4), i)
              | _ => none
            | _ => none
          | _ => none
        | _ => none
      | _ => none
    | _ => none
  | _, _ => none
theorem d59_ok {objs : List (TO U)} {args : List (TV U)} {n : N4} {i : Int} (h : d59 objs args = some (n, i)) : objs = [] ∧ args = [n.tv, .v (.int .i64 i)] := by
  unfold d59 at h
  repeat' split at h
  all_goals first | (cases h; done) | (cases h; exact ⟨rfl, rfl⟩)
noncomputable def sPc : Spc U := .of d59 (fun (n, i) => P59 n i) (fun _ => []) fun (n, i) => .v (.string (pcB n i))
theorem sPc_ok : SpecOk Try.prog 59 sPc := by
  refine fn_ok X_ok mixed Eu_ok an0 lp0 Try.func59 (by kernel_rfl) (by kernel_rfl) (lp0_ok (by kernel_rfl)) fun objs args x hx hp => ?_
  obtain ⟨n, i⟩ := x
  obtain ⟨rfl, rfl⟩ := d59_ok hx
  exact o59 hp
noncomputable def Ex : FuncId → Option (Spc U)
  | 58 => some sNumR
  | 59 => some sPc
  | _ => none
theorem Ex_ok : ∀ f S, Ex f = some S → SpecOk Try.prog f S := fun f S h => by
  unfold Ex at h
  split at h
  · cases h; exact sNumR_ok
  · cases h; exact sPc_ok
  · cases h
def S25 (n : N4) (b : ByteArray) (v : Int) : TS U := mkS 34 [(1, .ref 0 0 0), (3, .v (.string b)), (4, .v (.int .i64 v))] [n.ob] 0
def Z25 (b : ByteArray) : TS U := mkS 34 [(3, .v (.string b))] [] 0
theorem r25 (lp : Lp
  U) (N : Nat) (n : N4) (b : ByteArray) (v : Int) : (fnLoop X Ex an25 lp Try.f25 0 N.succ (S25 n b v)) =
  bif decide (v < (↑n.K.length : Int)) then
  if P59 n v then
    if b.size + (pcB n v).size ≤ 9223372036854775807 then
      fnLoop X Ex an25 lp Try.f25 0 N
        (mkS 34
          [(1, TV.ref 0 0 0), (3, TV.v (Value.string (b ++ pcB n v))),
            (4, TV.v (Value.int IntKind.i64 (IntKind.i64.wrap (v + 1))))]
          [n.ob] 0)
    else none
  else none
else some (Exit.exit 0, mkS 34 [(3, TV.v (Value.string b))] [] 0) := by kernel_rfl
theorem rounds25 (lp : Lp U) (n : N4) (h : n.n3.Ok) : fnLoop X Ex an25 lp Try.f25 0 (n.n3.pcs.length + 1) (S25 n n.n3.hd 0) = some (.exit 0, Z25 n.n3.put) := by
  have hl : n.n3.pcs.length = n.K.length := h.pcs
  have hk : n.K.length ≤ 1000000 := h.len
  refine fold_rounds (fnl := fnLoop X Ex an25 lp Try.f25 0) (fun b v => S25 n b v) (fun b => ((.exit 0, Z25 b) : Exit × TS U)) n.n3.pcs (fun b v => (b.size : Int) ≤ 20 + 300000000 * v) (· ++ ·) (fun N b v z hI h0 h1 hz => ?_) (fun N b v hI h1 => ?_) _ _ 0 (by
      have : n.n3.hd.size ≤ 20 := hdB_size _ _ _
      omega) (Int.le_refl _) (by omega)
  · have hp : P59 n v := ⟨h, h0, by omega⟩
    have hb : pcB n v = z := by unfold pcB; rw [hz]; rfl
    have hs : z.size ≤ 300000000 := by
      cases hL : n.L with
      | true =>
        have h' : Pn true n.n3.K n.n3.V n.n3.I := by have := h; unfold N3.Ok at this; rw [show n.n3.L = true from hL] at this; exact this
        have hz' : getI (pcs true n.n3.K n.n3.V n.n3.I) v = some z := by have := hz; unfold N3.pcs at this; rw [show n.n3.L = true from hL] at this; exact this
        obtain ⟨_, _, _, _, _, _, e⟩ := pcs_leaf h' hz'
        exact e
      | false =>
        have h' : Pn false n.n3.K n.n3.V n.n3.I := by have := h; unfold N3.Ok at this; rw [show n.n3.L = false from hL] at this; exact this
        have hz' : getI (pcs false n.n3.K n.n3.V n.n3.I) v = some z := by have := hz; unfold N3.pcs at this; rw [show n.n3.L = false from hL] at this; exact this
        obtain ⟨_, _, _, _, _, _, e⟩ := pcs_inner h' hz'
        exact e
    refine ⟨?_, by rw [app_size]; omega⟩
    rw [r25, decide_eq_true (by omega), cond_true, if_pos hp, hb, if_pos (by omega), wr (a := v + 1) (by omega) (by omega)]
    rfl
  · rw [r25, decide_eq_false (by omega)]
    rfl
def P25 (n : N4) (b : ByteArray) (v : Int) : Prop := n.n3.Ok ∧ b = n.n3.hd ∧ v = 0
noncomputable instance (n : N4) (b : ByteArray) (v : Int) : Decidable (P25 n b v) := Classical.propDecidable _
def dl25 (s : TS U) : Option (N4 × ByteArray × Int) := match told s 34 [1, 3, 4] 0, s.objs with
  | some [a0, a1, a2], [o0] =>
    match o0 with
    | .cells [q0, q1, q2, q3] false =>
      match q0 with
      | .v (.bool n_L) =>
        match q1 with
        | .lst .str n_K =>
          match q2 with
          | .lst .t83 n_V =>
            match q3 with
            | .lst .i64 n_I =>
              match a0 with
              | .ref 0 0 0 =>
                match a1 with
                | .v (.string b) =>
                  match a2 with
                  | .v (.int .i64 v) =>
                    some ((⟨n_L, n_K, n_V, n_I⟩ : N4), b, v)
                  | _ => none
                | _ => none
              | _ => none
            | _ => none
          | _ => none
        | _ => none
      | _ => none
    | _ => none
  | _, _ => none
theorem dl25_ok {s : TS U} {n : N4} {b : ByteArray} {v : Int} (h : dl25 s = some (n, b, v)) : s = mkS (U := U) 34 ([1, 3, 4].zip ([.ref 0 0 0, .v (.string b), .v (.int .i64 v)] : List (TV U))) ([n.ob] : List (TO U)) 0 := by
  unfold dl25 at h
  split at h <;> try (cases h; done)
  rename_i ht ho
  have hs := told_ok ht
  rw [ho] at hs
  repeat' split at h
  all_goals first | (cases h; done) | (cases h; exact hs)
noncomputable def lc25 : LC U := .of dl25 (fun (n, b, v) => P25 n b v) (.exit 0) (fun (n, b, v) => Z25 n.n3.put)
noncomputable def lp25 : Lp U := lpL [(0, lc25)]
theorem lp25_ok : ∀ c, Try.f25.body = some c → LpOk X Ex an25 lp25 (loops c 0) := lpL_ok (by kernel_rfl) fun b L hm st p hs => by
  cases hm with
  | tail _ h => cases h
  | head =>
    obtain ⟨⟨n, b, v⟩, hx, ⟨h1, rfl, rfl⟩, rfl⟩ := LC.of_some hs
    obtain rfl := dl25_ok hx
    exact ⟨_, rounds25 _ n h1⟩
theorem e25 (n : N4) : (evFn X Ex an25 lp25 Try.f25 [] [n.tv] fun (o : List (TO X.U)) (v : TV X.U) => some (o, v)) =
  if U64 (IntKind.u64.wrap (↑n.K.length : Int)) then
  bif !n.L then
    (getI n.I 0).bind fun (z : X.U.T C.i64) =>
      if U64 (IntKind.u64.wrap z) then
        if
            (numB (IntKind.u64.wrap (↑n.K.length : Int))).size + (numB (IntKind.u64.wrap z)).size ≤
              9223372036854775807 then
          if P25 n (numB (IntKind.u64.wrap (↑n.K.length : Int)) ++ numB (IntKind.u64.wrap z)) 0 then
            some ([], TV.v (Value.string n.n3.put))
          else none
        else none
      else none
  else if P25 n (numB (IntKind.u64.wrap (↑n.K.length : Int))) 0 then some ([], TV.v (Value.string n.n3.put)) else none
else none := by kernel_rfl
theorem o25 {n : N4} (h : n.n3.Ok) : evFn X Ex an25 lp25 Try.f25 [] [n.tv] (fun o v => some (o, v)) = some ([], .v (.string n.n3.put)) := by
  rw [e25, if_pos (u64_wrap _)]
  have h' := h
  obtain ⟨_, _, _, h1, h2⟩ := h'
  cases hL : n.L with
  | true =>
    have e : n.n3.hd = numB (IntKind.u64.wrap (n.K.length : Int)) := by unfold N3.hd hdB N4.n3; rw [hL]; rfl
    rw [Bool.not_true, cond_false, if_pos ⟨h, e.symm, rfl⟩]
  | false =>
    have h2 : n.I.length = n.K.length + 1 := h2 hL
    have h3 := numB_size (u64_wrap (n.K.length : Int))
    obtain ⟨z, hz, hz2⟩ := getE (l := n.I) (v := 0) (Int.le_refl _) (by omega)
    have h4 := numB_size (u64_wrap z)
    have e : n.n3.hd = numB (IntKind.u64.wrap (n.K.length : Int)) ++ numB (IntKind.u64.wrap z) := by
      unfold N3.hd hdB N4.n3
      rw [hL, cond_false]
      dsimp only
      cases hI : n.I with
      | nil => rw [hI] at hz; cases hz
      | cons x l => rw [hI] at hz; cases hz; rfl
    rw [Bool.not_false, cond_true, hz, Option.bind_some, if_pos (u64_wrap _), if_pos (by omega), if_pos ⟨h, e.symm, rfl⟩]
def dNa (objs : List (TO U)) (args : List (TV U)) : Option (N4) := match objs, args with
  | [], [a0] =>
    match a0 with
    | .agg [q0, q1, q2, q3] =>
      match q0 with
      | .v (.bool n_L) =>
        match q1 with
        | .lst .str n_K =>
          match q2 with
          | .lst .t83 n_V =>
            match q3 with
            | .lst .i64 n_I =>
              some (⟨n_L, n_K, n_V, n_I⟩ : N4)
            | _ => none
          | _ => none
        | _ => none
      | _ => none
    | _ => none
  | _, _ => none
theorem dNa_ok {objs : List (TO U)} {args : List (TV U)} {n : N4} (h : dNa objs args = some n) : objs = [] ∧ args = [n.tv] := by
  unfold dNa at h
  repeat' split at h
  all_goals first | (cases h; done) | (cases h; exact ⟨rfl, rfl⟩)
noncomputable def sPutR : Spc U := .of dNa (fun n => n.n3.Ok) (fun _ => []) fun n => .v (.string n.n3.put)
theorem sPutR_ok : SpecOk Try.prog 25 sPutR := by
  refine fn_ok X_ok mixed Ex_ok an25 lp25 Try.func25 (by kernel_rfl) (by kernel_rfl) lp25_ok fun objs args n hx hp => ?_
  obtain ⟨rfl, rfl⟩ := dNa_ok hx
  exact o25 hp
/-- The document's node says what the node says. -/
theorem refP_n3 (b : Bool) (ks : List ByteArray) (vs : List R33) (ki : List Int) : (refP b ks vs ki).n3 = ⟨b, ks, vs, ki⟩ := by
  unfold refP N4.n3
  dsimp only
  rw [List.map_map, show cvB ∘ cvR = id from rfl, List.map_id]
end Go.Proofs.Ytmcflglkfgnbbaa.Nd

/- Inner nodes. -/
namespace Go.Proofs.Ytmcflglkfgnbbaa.Nd
open Go Go.RowKit Go.Proofs.Ytmcflglkfgnbbaa.Eng
set_option linter.unusedVariables false
set_option linter.unusedSimpArgs false
set_option maxRecDepth 20000
def Ei : FuncId → Option (Spc U)
  | 9 => some sLeaf
  | _ => none
theorem Ei_ok : ∀ f S, Ei f = some S → SpecOk Try.prog f S := fun f S h => by
  unfold Ei at h
  split at h
  · cases h; exact sLeaf_ok
  · cases h
def an45 : Ann := ⟨fun | 0 => 61 | _ => 0, fun | 0 => 20 | _ => 0, fun _ => [], false⟩
def pgI (z : R24) : Int := IntKind.i64.wrap (↑(BitVec.ofInt IntKind.i64.bits z.Page &&& BitVec.ofInt IntKind.i64.bits 16383).toNat : Int)
/-- The pages of an inner node of so many keys. -/
def inI (l : List R24) (k : Nat) : List Int := 5 :: (l.take k).map pgI
def kT (e : Bool) (ks : List ByteArray) : TV U := cond e nlv (.lst .str ks)
def vT (e : Bool) (vs : List R33) : TV U := cond e nlv (.lst .t33 vs)
def S45 (l : List R24) (a : TV U) (b : TV U) (i : Int) (xs : List Int) : TS U := mkS 31 [(0, .lst .t24 l), (2, .ref 0 0 0), (3, .ref 1 0 0), (4, .ref 2 0 0), (5, .v (.int .i64 i))]
  [.cells [.v (.bool false), nlv, nlv, nlv] false, .cells [.v (.bool true), a, b, nlv] false, .cells [.v (.bool false), a, nlv, .full 3] false, .row .i64 xs false] 0
def Z45 (a : TV U) (xs : List Int) : TS U := mkS 31 [(2, .ref 0 0 0), (4, .ref 1 0 0)] [.cells [.v (.bool false), nlv, nlv, nlv] false, .cells [.v (.bool false), a, nlv, .full 2] false, .row .i64 xs false] 0
theorem r45n (lp : Lp U) (N : Nat) (l : List R24) (i : Int) (xs : List Int) : fnLoop X Ei an45 lp Try.f45 0 N.succ (S45 l nlv nlv 0 xs) = some (.exit 0, Z45 nlv xs) := by kernel_rfl
theorem r45 (lp : Lp
  U) (N : Nat) (l : List
  R24) (ks : List
  ByteArray) (vs : List
  R33) (i : Int) (xs : List
  Int) : (fnLoop X Ei an45 lp Try.f45 0 N.succ (S45 l (TV.lst C.str ks) (TV.lst C.t33 vs) i xs)) =
  bif decide (i < (↑ks.length : Int)) then
  (getI l i).bind fun (z : X.U.T C.t24) =>
    if (xs.length + 1) * 8 ≤ 140737488355328 then
      fnLoop X Ei an45 lp Try.f45 0 N
        (mkS 31
          [(0, TV.lst C.t24 l), (2, TV.ref 0 0 0), (3, TV.ref 1 0 0), (4, TV.ref 2 0 0),
            (5, TV.v (Value.int IntKind.i64 (IntKind.i64.wrap (i + 1))))]
          [TO.cells
              [TV.v (Value.bool false), TV.v (Value.slice none 0 0), TV.v (Value.slice none 0 0),
                TV.v (Value.slice none 0 0)]
              false,
            TO.cells [TV.v (Value.bool true), TV.lst C.str ks, TV.lst C.t33 vs, TV.v (Value.slice none 0 0)] false,
            TO.cells [TV.v (Value.bool false), TV.lst C.str ks, TV.v (Value.slice none 0 0), TV.full 3] false,
            TO.row C.i64
              (xs ++
                [IntKind.i64.wrap
                    (↑(BitVec.ofInt IntKind.i64.bits z.Page &&& BitVec.ofInt IntKind.i64.bits 16383).toNat : Int)])
              false]
          0)
    else none
else
  some
    (Exit.exit 0,
      mkS 31 [(2, TV.ref 0 0 0), (4, TV.ref 1 0 0)]
        [TO.cells
            [TV.v (Value.bool false), TV.v (Value.slice none 0 0), TV.v (Value.slice none 0 0),
              TV.v (Value.slice none 0 0)]
            false,
          TO.cells [TV.v (Value.bool false), TV.lst C.str ks, TV.v (Value.slice none 0 0), TV.full 2] false,
          TO.row C.i64 xs false]
        0) := by kernel_rfl
theorem rounds45 (lp : Lp U) (l : List R24) (ks : List ByteArray) (vs : List R33) (h1 : ks.length ≤ l.length) (h2 : ks.length ≤ 40) : ∀ (m k : Nat), k + m = ks.length → fnLoop X Ei an45 lp Try.f45 0 (m + 1) (S45 l (.lst .str ks) (.lst .t33 vs) k (inI l k)) = some (.exit 0, Z45 (.lst .str ks) (inI l ks.length)) := by
  intro m
  induction m with
  | zero =>
    intro k hk
    obtain rfl : k = ks.length := hk
    rw [r45, decide_eq_false (by omega)]
    rfl
  | succ m ih =>
    intro k hk
    obtain ⟨z, hz, hz2⟩ := getE (l := l) (v := (k : Int)) (by omega) (by omega)
    have hz3 : l[k]? = some z := hz2
    have hlen : (inI l k).length ≤ 41 := by unfold inI; rw [List.length_cons, List.length_map, List.length_take]; omega
    have hs : inI l k ++ [pgI z] = inI l (k + 1) := by
      unfold inI
      rw [List.take_add_one, hz3, List.map_append]
      rfl
    rw [r45, decide_eq_true (by omega), hz]
    simp only [cond_true, Option.bind_some]
    rw [if_pos (by omega), wr (a := (k : Int) + 1) (by omega) (by omega)]
    have := ih (k + 1) (by omega)
    rw [← hs] at this
    exact this
def dl45n (s : TS U) : Option (Bool × Bool × Bool × List Int × List R24 × Int) := match told s 31 [0, 2, 3, 4, 5] 0, s.objs with
  | some [a0, a1, a2, a3, a4], [o0, o1, o2, o3] =>
    match o0 with
    | .cells [q0, q1, q2, q3] false =>
      match q0 with
      | .v (.bool b0) =>
        match q1 with
        | .v (.slice none 0 0) =>
          match q2 with
          | .v (.slice none 0 0) =>
            match q3 with
            | .v (.slice none 0 0) =>
              match o1 with
              | .cells [q4, q5, q6, q7] false =>
                match q4 with
                | .v (.bool b1) =>
                  match q5 with
                  | .v (.slice none 0 0) =>
                    match q6 with
                    | .v (.slice none 0 0) =>
                      match q7 with
                      | .v (.slice none 0 0) =>
                        match o2 with
                        | .cells [q8, q9, q10, q11] false =>
                          match q8 with
                          | .v (.bool b2) =>
                            match q9 with
                            | .v (.slice none 0 0) =>
                              match q10 with
                              | .v (.slice none 0 0) =>
                                match q11 with
                                | .full 3 =>
                                  match o3 with
                                  | .row .i64 xs false =>
                                    match a0 with
                                    | .lst .t24 l =>
                                      match a1 with
                                      | .ref 0 0 0 =>
                                        match a2 with
                                        | .ref 1 0 0 =>
                                          match a3 with
                                          | .ref 2 0 0 =>
                                            match a4 with
                                            | .v (.int .i64 i) =>
                                              some (b0, b1, b2, xs, l, i)
                                            | _ => none
                                          | _ => none
                                        | _ => none
                                      | _ => none
                                    | _ => none
                                  | _ => none
                                | _ => none
                              | _ => none
                            | _ => none
                          | _ => none
                        | _ => none
                      | _ => none
                    | _ => none
                  | _ => none
                | _ => none
              | _ => none
            | _ => none
          | _ => none
        | _ => none
      | _ => none
    | _ => none
  | _, _ => none
theorem dl45n_ok {s : TS U} {b0 : Bool} {b1 : Bool} {b2 : Bool} {xs : List Int} {l : List R24} {i : Int} (h : dl45n s = some (b0, b1, b2, xs, l, i)) : s = mkS (U := U) 31 ([0, 2, 3, 4, 5].zip ([.lst .t24 l, .ref 0 0 0, .ref 1 0 0, .ref 2 0 0, .v (.int .i64 i)] : List (TV U))) ([.cells [.v (.bool b0), .v (.slice none 0 0), .v (.slice none 0 0), .v (.slice none 0 0)] false, .cells [.v (.bool b1), .v (.slice none 0 0), .v (.slice none 0 0), .v (.slice none 0 0)] false, .cells [.v (.bool b2), .v (.slice none 0 0), .v (.slice none 0 0), .full 3] false, .row .i64 xs false] : List (TO U)) 0 := by
  unfold dl45n at h
  split at h <;> try (cases h; done)
  rename_i ht ho
  have hs := told_ok ht
  rw [ho] at hs
  repeat' split at h
  all_goals first | (cases h; done) | (cases h; exact hs)
def dl45c (s : TS U) : Option (Bool × Bool × List ByteArray × List R33 × Bool × List ByteArray × List Int × List R24 × Int) := match told s 31 [0, 2, 3, 4, 5] 0, s.objs with
  | some [a0, a1, a2, a3, a4], [o0, o1, o2, o3] =>
    match o0 with
    | .cells [q0, q1, q2, q3] false =>
      match q0 with
      | .v (.bool b0) =>
        match q1 with
        | .v (.slice none 0 0) =>
          match q2 with
          | .v (.slice none 0 0) =>
            match q3 with
            | .v (.slice none 0 0) =>
              match o1 with
              | .cells [q4, q5, q6, q7] false =>
                match q4 with
                | .v (.bool b1) =>
                  match q5 with
                  | .lst .str ks =>
                    match q6 with
                    | .lst .t33 vs =>
                      match q7 with
                      | .v (.slice none 0 0) =>
                        match o2 with
                        | .cells [q8, q9, q10, q11] false =>
                          match q8 with
                          | .v (.bool b2) =>
                            match q9 with
                            | .lst .str kt =>
                              match q10 with
                              | .v (.slice none 0 0) =>
                                match q11 with
                                | .full 3 =>
                                  match o3 with
                                  | .row .i64 xs false =>
                                    match a0 with
                                    | .lst .t24 l =>
                                      match a1 with
                                      | .ref 0 0 0 =>
                                        match a2 with
                                        | .ref 1 0 0 =>
                                          match a3 with
                                          | .ref 2 0 0 =>
                                            match a4 with
                                            | .v (.int .i64 i) =>
                                              some (b0, b1, ks, vs, b2, kt, xs, l, i)
                                            | _ => none
                                          | _ => none
                                        | _ => none
                                      | _ => none
                                    | _ => none
                                  | _ => none
                                | _ => none
                              | _ => none
                            | _ => none
                          | _ => none
                        | _ => none
                      | _ => none
                    | _ => none
                  | _ => none
                | _ => none
              | _ => none
            | _ => none
          | _ => none
        | _ => none
      | _ => none
    | _ => none
  | _, _ => none
theorem dl45c_ok {s : TS U} {b0 : Bool} {b1 : Bool} {ks : List ByteArray} {vs : List R33} {b2 : Bool} {kt : List ByteArray} {xs : List Int} {l : List R24} {i : Int} (h : dl45c s = some (b0, b1, ks, vs, b2, kt, xs, l, i)) : s = mkS (U := U) 31 ([0, 2, 3, 4, 5].zip ([.lst .t24 l, .ref 0 0 0, .ref 1 0 0, .ref 2 0 0, .v (.int .i64 i)] : List (TV U))) ([.cells [.v (.bool b0), .v (.slice none 0 0), .v (.slice none 0 0), .v (.slice none 0 0)] false, .cells [.v (.bool b1), .lst .str ks, .lst .t33 vs, .v (.slice none 0 0)] false, .cells [.v (.bool b2), .lst .str kt, .v (.slice none 0 0), .full 3] false, .row .i64 xs false] : List (TO U)) 0 := by
  unfold dl45c at h
  split at h <;> try (cases h; done)
  rename_i ht ho
  have hs := told_ok ht
  rw [ho] at hs
  repeat' split at h
  all_goals first | (cases h; done) | (cases h; exact hs)
structure A45 where
  e : Bool
  b0 : Bool
  b1 : Bool
  b2 : Bool
  ks : List ByteArray
  vs : List R33
  kt : List ByteArray
  xs : List Int
  l : List R24
  i : Int
def P45 (a : A45) : Prop := a.b0 = false ∧ a.b1 = true ∧ a.b2 = false ∧ a.kt = a.ks ∧ a.i = 0 ∧ a.xs = [5] ∧ a.ks.length ≤ a.l.length ∧ a.ks.length ≤ 40
instance (a : A45) : Decidable (P45 a) := by unfold P45; infer_instance
def dl45 : TS U → Option A45 := orD (fun s => (dl45n s).map fun (b0, b1, b2, xs, l, i) => ⟨true, b0, b1, b2, [], [], [], xs, l, i⟩) (fun s => (dl45c s).map fun (b0, b1, ks, vs, b2, kt, xs, l, i) => ⟨false, b0, b1, b2, ks, vs, kt, xs, l, i⟩)
def lc45 : LC U := .of2 dl45 P45 (fun a => a.e) (.exit 0) (fun a => Z45 nlv (inI a.l 0)) (.exit 0) fun a => Z45 (.lst .str a.ks) (inI a.l a.ks.length)
def lp45 : Lp U := lpL [(0, lc45)]
theorem lp45_ok : ∀ c, Try.f45.body = some c → LpOk X Ei an45 lp45 (loops c 0) := lpL_ok (by kernel_rfl) fun b L hm st p hs => by
  cases hm with
  | tail _ h => cases h
  | head =>
    obtain ⟨a, hx, ⟨h1, h2, h3, h4, h5, h6, h7, h8⟩, rfl⟩ := LC.of2_some hs
    rcases orD_some hx with hy | hy
    · rw [Option.map_eq_some_iff] at hy
      obtain ⟨⟨b0, b1, b2, xs, l, i⟩, hd, rfl⟩ := hy
      obtain rfl := dl45n_ok hd
      dsimp only at h1 h2 h3 h5 h6
      subst h1 h2 h3 h5 h6
      exact ⟨1, r45n _ 0 l 0 [5]⟩
    · rw [Option.map_eq_some_iff] at hy
      obtain ⟨⟨b0, b1, ks, vs, b2, kt, xs, l, i⟩, hd, rfl⟩ := hy
      obtain rfl := dl45c_ok hd
      dsimp only at h1 h2 h3 h4 h5 h6 h7 h8
      subst h1 h2 h3 h4 h5 h6
      exact ⟨_, rounds45 _ l _ vs h7 h8 _ 0 (Nat.zero_add _)⟩
theorem e45 (l : List
  R24) : (evFn X Ei an45 lp45 Try.f45 [] [TV.lst C.t24 l] fun (o : List (TO X.U)) (v : TV X.U) => some (o, v)) =
  if True then
  bif (lfP l).fst.isEmpty then
    if
        P45
          { e := true, b0 := false, b1 := true, b2 := false, ks := [], vs := [], kt := [], xs := [5], l := l,
            i := 0 } then
      some
        ([],
          TV.agg
            [TV.v (Value.bool false), TV.v (Value.slice none 0 0), TV.v (Value.slice none 0 0), TV.lst C.i64 (inI l 0)])
    else none
  else
    if
        P45
          { e := false, b0 := false, b1 := true, b2 := false, ks := cS (lfP l).fst, vs := cV (lfP l).snd,
            kt := cS (lfP l).fst, xs := [5], l := l, i := 0 } then
      some
        ([],
          TV.agg
            [TV.v (Value.bool false), TV.lst C.str (cS (lfP l).fst), TV.v (Value.slice none 0 0),
              TV.lst C.i64 (inI l (cS (lfP l).fst).length)])
    else none
else none := by kernel_rfl
theorem lfP_len (l : List R24) : (lfP l).1.length ≤ l.length := by
  have hl : (l.take 40).length ≤ 40 := by rw [List.length_take]; omega
  obtain ⟨_, b⟩ := fold_ok (l.take 40) ([], []) 0 pre0 (Nat.le_refl 0) (by omega)
  rw [List.length_take] at b
  show ((l.take 40).foldl stL ([], [])).1.length ≤ _
  omega
def dL45 (objs : List (TO U)) (args : List (TV U)) : Option (List R24) := match objs, args with
  | [], [a0] =>
    match a0 with
    | .lst .t24 l =>
      some l
    | _ => none
  | _, _ => none
theorem dL45_ok {objs : List (TO U)} {args : List (TV U)} {l : List R24} (h : dL45 objs args = some l) : objs = [] ∧ args = [.lst .t24 l] := by
  unfold dL45 at h
  repeat' split at h
  all_goals first | (cases h; done) | (cases h; exact ⟨rfl, rfl⟩)
def sInn : Spc U := .of2 dL45 (fun _ => True) (fun l => (lfP l).1.isEmpty) (fun _ => []) (fun l => .agg [.v (.bool false), nlv, nlv, .lst .i64 (inI l 0)]) (fun _ => []) fun l => .agg [.v (.bool false), .lst .str (cS (lfP l).1), nlv, .lst .i64 (inI l (lfP l).1.length)]
theorem sInn_ok : SpecOk Try.prog 45 sInn := by
  refine fn_ok2 X_ok mixed Ei_ok an45 lp45 Try.func45 (by kernel_rfl) (by kernel_rfl) lp45_ok fun objs args l hx hp => ?_
  obtain ⟨rfl, rfl⟩ := dL45_ok hx
  refine (e45 l).trans ?_
  obtain ⟨h1, h2⟩ := lfP_ok l
  have h3 := lfP_len l
  rw [if_pos trivial]
  cases hq : (lfP l).1 with
  | nil => rw [List.isEmpty_nil, cond_true, if_pos (show P45 ⟨true, false, true, false, [], [], [], [5], l, 0⟩ from ⟨rfl, rfl, rfl, rfl, rfl, rfl, Nat.zero_le _, Nat.zero_le _⟩)]; rfl
  | cons x xs =>
    have e1 : cS (x :: xs) = x :: xs := rfl
    rw [hq] at h2 h3
    rw [e1]
    rw [List.isEmpty_cons, cond_false, if_pos (show P45 ⟨false, false, true, false, x :: xs, cV (lfP l).2, x :: xs, [5], l, 0⟩ from ⟨rfl, rfl, rfl, rfl, rfl, rfl, h3, h2⟩)]; rfl
end Go.Proofs.Ytmcflglkfgnbbaa.Nd

/- A leaf, or an inner node. -/
namespace Go.Proofs.Ytmcflglkfgnbbaa.Nd
open Go Go.RowKit Go.Proofs.Ytmcflglkfgnbbaa.Eng
set_option linter.unusedVariables false
set_option linter.unusedSimpArgs false
set_option maxRecDepth 20000
def Eei : FuncId → Option (Spc U)
  | 9 => some sLeaf
  | 45 => some sInn
  | _ => none
theorem Eei_ok : ∀ f S, Eei f = some S → SpecOk Try.prog f S := fun f S h => by
  unfold Eei at h
  split at h
  · cases h; exact sLeaf_ok
  · cases h; exact sInn_ok
  · cases h
theorem e18t (l : List
  R24) : (evFn X Eei an0 lp0 Try.f18 [] [TV.lst C.t24 l, TV.v (Value.bool true)] fun (o : List (TO X.U)) (v : TV X.U) =>
  some (o, v)) =
  if True then
  bif (lfP l).fst.isEmpty then
    some
      ([],
        TV.agg
          [TV.v (Value.bool true), TV.v (Value.slice none 0 0), TV.v (Value.slice none 0 0),
            TV.v (Value.slice none 0 0)])
  else
    some
      ([],
        TV.agg
          [TV.v (Value.bool true), TV.lst C.str (cS (lfP l).fst), TV.lst C.t33 (cV (lfP l).snd),
            TV.v (Value.slice none 0 0)])
else none := by kernel_rfl
theorem e18f (l : List
  R24) : (evFn X Eei an0 lp0 Try.f18 [] [TV.lst C.t24 l, TV.v (Value.bool false)]
  fun (o : List (TO X.U)) (v : TV X.U) => some (o, v)) =
  if True then
  bif (lfP l).fst.isEmpty then
    some
      ([],
        TV.agg
          [TV.v (Value.bool false), TV.v (Value.slice none 0 0), TV.v (Value.slice none 0 0), TV.lst C.i64 (inI l 0)])
  else
    some
      ([],
        TV.agg
          [TV.v (Value.bool false), TV.lst C.str (cS (lfP l).fst), TV.v (Value.slice none 0 0),
            TV.lst C.i64 (inI l (lfP l).fst.length)])
else none := by kernel_rfl
def d18 (objs : List (TO U)) (args : List (TV U)) : Option (List R24 × Bool) := match objs, args with
  | [], [a0, a1] =>
    match a0 with
    | .lst .t24 l =>
      match a1 with
      | .v (.bool b) =>
        some (l, b)
      | _ => none
    | _ => none
  | _, _ => none
theorem d18_ok {objs : List (TO U)} {args : List (TV U)} {l : List R24} {b : Bool} (h : d18 objs args = some (l, b)) : objs = [] ∧ args = [.lst .t24 l, .v (.bool b)] := by
  unfold d18 at h
  repeat' split at h
  all_goals first | (cases h; done) | (cases h; exact ⟨rfl, rfl⟩)
def isT : List (TV U) → Bool
  | [_, .v (.bool true)] => true
  | _ => false
def sEiT : Spc U := .of2 d18 (fun (l, b) => b = true) (fun (l, b) => (lfP l).1.isEmpty) (fun _ => []) (fun _ => .agg [.v (.bool true), nlv, nlv, nlv]) (fun _ => []) fun (l, b) => .agg [.v (.bool true), .lst .str (cS (lfP l).1), .lst .t33 (cV (lfP l).2), nlv]
def sEiF : Spc U := .of2 d18 (fun (l, b) => b = false) (fun (l, b) => (lfP l).1.isEmpty) (fun _ => []) (fun (l, b) => .agg [.v (.bool false), nlv, nlv, .lst .i64 (inI l 0)]) (fun _ => []) fun (l, b) => .agg [.v (.bool false), .lst .str (cS (lfP l).1), nlv, .lst .i64 (inI l (lfP l).1.length)]
theorem sEiT_ok : SpecOk Try.prog 18 sEiT := by
  refine fn_ok2 X_ok mixed Eei_ok an0 lp0 Try.func18 (by kernel_rfl) (by kernel_rfl) (lp0_ok (by kernel_rfl)) fun objs args x hx hp => ?_
  obtain ⟨l, b⟩ := x
  obtain ⟨rfl, rfl⟩ := d18_ok hx
  obtain rfl : b = true := hp
  refine (e18t l).trans ?_
  rw [if_pos trivial]
  dsimp only
  cases (lfP l).1.isEmpty <;> rfl
theorem sEiF_ok : SpecOk Try.prog 18 sEiF := by
  refine fn_ok2 X_ok mixed Eei_ok an0 lp0 Try.func18 (by kernel_rfl) (by kernel_rfl) (lp0_ok (by kernel_rfl)) fun objs args x hx hp => ?_
  obtain ⟨l, b⟩ := x
  obtain ⟨rfl, rfl⟩ := d18_ok hx
  obtain rfl : b = false := hp
  refine (e18f l).trans ?_
  rw [if_pos trivial]
  dsimp only
  cases (lfP l).1.isEmpty <;> rfl
def sEi : Spc U := alt isT sEiT sEiF
theorem sEi_ok : SpecOk Try.prog 18 sEi := alt_ok sEiT_ok sEiF_ok
end Go.Proofs.Ytmcflglkfgnbbaa.Nd

/- Bytes read: numbers. -/
namespace Go.Proofs.Ytmcflglkfgnbbaa.Nd
open Go Go.RowKit Go.Proofs.Ytmcflglkfgnbbaa.Eng
set_option linter.unusedVariables false
set_option linter.unusedSimpArgs false
set_option maxRecDepth 20000
/-- A reader. -/
structure Rd where
  S : ByteArray
  E : Int
def Rd.ob (r : Rd) : TO U := .cells [.v (.string r.S), .v (.int .i64 r.E)] false
def an53 : Ann := ⟨fun | 0 => 2083 | _ => 0, fun | 0 => 17 | _ => 0, fun _ => [], false⟩
theorem e54 (r : Rd) : (evFn X E0 an0 lp0 Try.f54 [r.ob] [TV.ref 0 0 0] fun (o : List (TO X.U)) (v : TV X.U) =>
  some (o, v)) =
  some
  ([TO.cells [TV.v (Value.string r.S), TV.v (Value.int IntKind.i64 r.E)] false],
    TV.v (Value.int IntKind.i64 r.E)) := by kernel_rfl
theorem e52 (s : ByteArray) : (evFn X E0 an0 lp0 Try.f52 [] [TV.v (Value.string s)]
  fun (o : List (TO X.U)) (v : TV X.U) => some (o, v)) =
  some ([TO.cells [TV.v (Value.string s), TV.v (Value.int IntKind.i64 0)] false], TV.ref 0 0 0) := by kernel_rfl
def dRd (objs : List (TO U)) (args : List (TV U)) : Option (Rd) := match objs, args with
  | [o0], [a0] =>
    match o0 with
    | .cells [q0, q1] false =>
      match q0 with
      | .v (.string r_S) =>
        match q1 with
        | .v (.int .i64 r_E) =>
          match a0 with
          | .ref 0 0 0 =>
            some (⟨r_S, r_E⟩ : Rd)
          | _ => none
        | _ => none
      | _ => none
    | _ => none
  | _, _ => none
theorem dRd_ok {objs : List (TO U)} {args : List (TV U)} {r : Rd} (h : dRd objs args = some r) : objs = [r.ob] ∧ args = [.ref 0 0 0] := by
  unfold dRd at h
  repeat' split at h
  all_goals first | (cases h; done) | (cases h; exact ⟨rfl, rfl⟩)
def sErr : Spc U := .of dRd (fun _ => True) (fun r => [r.ob]) fun r => .v (.int .i64 r.E)
theorem sErr_ok : SpecOk Try.prog 54 sErr := by
  refine fn_ok X_ok mixed E0_ok an0 lp0 Try.func54 (by kernel_rfl) (by kernel_rfl) (lp0_ok (by kernel_rfl)) fun objs args r hx hp => ?_
  obtain ⟨rfl, rfl⟩ := dRd_ok hx
  exact e54 r
def sNew : Spc U := .of dStr (fun _ => True) (fun s => [Rd.ob ⟨s, 0⟩]) fun _ => .ref 0 0 0
theorem sNew_ok : SpecOk Try.prog 52 sNew := by
  refine fn_ok X_ok mixed E0_ok an0 lp0 Try.func52 (by kernel_rfl) (by kernel_rfl) (lp0_ok (by kernel_rfl)) fun objs args s hx hp => ?_
  obtain ⟨rfl, rfl⟩ := dStr_ok hx
  exact e52 s
def Ee : FuncId → Option (Spc U)
  | 54 => some sErr
  | _ => none
theorem Ee_ok : ∀ f S, Ee f = some S → SpecOk Try.prog f S := fun f S h => by
  unfold Ee at h
  split at h
  · cases h; exact sErr_ok
  · cases h
def S53 (r : Rd) (m a i : Int) : TS U := mkS 73 [(0, .ref 0 0 0), (1, .v (.int .u64 m)), (5, .v (.int .u64 a)), (11, .v (.int .i64 i))] [r.ob] 1
def accN (a n i : Int) : Int := IntKind.u64.wrap (↑(BitVec.ofInt IntKind.u64.bits a ||| BitVec.ofInt IntKind.u64.bits (IntKind.u64.wrap (IntKind.u64.wrap (IntKind.u8.wrap (↑(BitVec.ofInt IntKind.u8.bits n &&& BitVec.ofInt IntKind.u8.bits 127).toNat : Int)) * 2 ^ min (IntKind.i64.wrap (7 * i)).toNat IntKind.u64.bits))).toNat : Int)
def hiN (n : Int) : Bool := !decide (IntKind.u8.wrap (↑(BitVec.ofInt IntKind.u8.bits n &&& BitVec.ofInt IntKind.u8.bits 128).toNat : Int) = 0)
def Z53 (s : ByteArray) (e a : Int) : TS U := mkS 73 [(0, .ref 0 0 0), (4, .v (.int .u64 a))] [Rd.ob ⟨s, e⟩] 1
theorem r53 (lp : Lp
  U) (N : Nat) (r : Rd) (m : Int) (a : Int) (i : Int) : (fnLoop X Ee an53 lp Try.f53 0 N.succ (S53 r m a i)) =
  bif decide (i < 10) then
  bif decide (i = (↑r.S.size : Int)) then none
  else
    (getB r.S i).bind fun (n : Int) =>
      bif decide (i = 9) then
        bif decide (1 < n) then some (Exit.exit 0, mkS 73 [(0, TV.ref 0 0 0)] [r.ob] 1)
        else
          bif decide (0 < i) then
            bif decide (n = 0) then some (Exit.exit 0, mkS 73 [(0, TV.ref 0 0 0)] [r.ob] 1)
            else
              if IntKind.i64.wrap (7 * i) < 0 then none
              else
                bif
                    !decide
                        (IntKind.u8.wrap
                            (↑(BitVec.ofInt IntKind.u8.bits n &&& BitVec.ofInt IntKind.u8.bits 128).toNat : Int) =
                          0) then
                  fnLoop X Ee an53 lp Try.f53 0 N
                    (mkS 73
                      [(0, TV.ref 0 0 0), (1, TV.v (Value.int IntKind.u64 m)),
                        (5,
                          TV.v
                            (Value.int IntKind.u64
                              (IntKind.u64.wrap
                                (↑(BitVec.ofInt IntKind.u64.bits a |||
                                        BitVec.ofInt IntKind.u64.bits
                                          (IntKind.u64.wrap
                                            (IntKind.u64.wrap
                                                (IntKind.u8.wrap
                                                  (↑(BitVec.ofInt IntKind.u8.bits n &&&
                                                          BitVec.ofInt IntKind.u8.bits 127).toNat :
                                                    Int)) *
                                              2 ^ min (IntKind.i64.wrap (7 * i)).toNat IntKind.u64.bits))).toNat :
                                  Int)))),
                        (11, TV.v (Value.int IntKind.i64 (IntKind.i64.wrap (i + 1))))]
                      [r.ob] 1)
                else
                  bif
                      decide
                        (m <
                          IntKind.u64.wrap
                            (↑(BitVec.ofInt IntKind.u64.bits a |||
                                    BitVec.ofInt IntKind.u64.bits
                                      (IntKind.u64.wrap
                                        (IntKind.u64.wrap
                                            (IntKind.u8.wrap
                                              (↑(BitVec.ofInt IntKind.u8.bits n &&&
                                                      BitVec.ofInt IntKind.u8.bits 127).toNat :
                                                Int)) *
                                          2 ^ min (IntKind.i64.wrap (7 * i)).toNat IntKind.u64.bits))).toNat :
                              Int)) then
                    none
                  else
                    (cutB r.S (some (IntKind.i64.wrap (i + 1))) none).bind fun (c : ByteArray) =>
                      some
                        (Exit.ret,
                          mkS 73
                            [(0, TV.ref 0 0 0),
                              (4,
                                TV.v
                                  (Value.int IntKind.u64
                                    (IntKind.u64.wrap
                                      (↑(BitVec.ofInt IntKind.u64.bits a |||
                                              BitVec.ofInt IntKind.u64.bits
                                                (IntKind.u64.wrap
                                                  (IntKind.u64.wrap
                                                      (IntKind.u8.wrap
                                                        (↑(BitVec.ofInt IntKind.u8.bits n &&&
                                                                BitVec.ofInt IntKind.u8.bits 127).toNat :
                                                          Int)) *
                                                    2 ^ min (IntKind.i64.wrap (7 * i)).toNat IntKind.u64.bits))).toNat :
                                        Int))))]
                            [TO.cells [TV.v (Value.string c), TV.v (Value.int IntKind.i64 r.E)] false] 1)
          else
            if IntKind.i64.wrap (7 * i) < 0 then none
            else
              bif
                  !decide
                      (IntKind.u8.wrap
                          (↑(BitVec.ofInt IntKind.u8.bits n &&& BitVec.ofInt IntKind.u8.bits 128).toNat : Int) =
                        0) then
                fnLoop X Ee an53 lp Try.f53 0 N
                  (mkS 73
                    [(0, TV.ref 0 0 0), (1, TV.v (Value.int IntKind.u64 m)),
                      (5,
                        TV.v
                          (Value.int IntKind.u64
                            (IntKind.u64.wrap
                              (↑(BitVec.ofInt IntKind.u64.bits a |||
                                      BitVec.ofInt IntKind.u64.bits
                                        (IntKind.u64.wrap
                                          (IntKind.u64.wrap
                                              (IntKind.u8.wrap
                                                (↑(BitVec.ofInt IntKind.u8.bits n &&&
                                                        BitVec.ofInt IntKind.u8.bits 127).toNat :
                                                  Int)) *
                                            2 ^ min (IntKind.i64.wrap (7 * i)).toNat IntKind.u64.bits))).toNat :
                                Int)))),
                      (11, TV.v (Value.int IntKind.i64 (IntKind.i64.wrap (i + 1))))]
                    [r.ob] 1)
              else
                bif
                    decide
                      (m <
                        IntKind.u64.wrap
                          (↑(BitVec.ofInt IntKind.u64.bits a |||
                                  BitVec.ofInt IntKind.u64.bits
                                    (IntKind.u64.wrap
                                      (IntKind.u64.wrap
                                          (IntKind.u8.wrap
                                            (↑(BitVec.ofInt IntKind.u8.bits n &&&
                                                    BitVec.ofInt IntKind.u8.bits 127).toNat :
                                              Int)) *
                                        2 ^ min (IntKind.i64.wrap (7 * i)).toNat IntKind.u64.bits))).toNat :
                            Int)) then
                  none
                else
                  (cutB r.S (some (IntKind.i64.wrap (i + 1))) none).bind fun (c : ByteArray) =>
                    some
                      (Exit.ret,
                        mkS 73
                          [(0, TV.ref 0 0 0),
                            (4,
                              TV.v
                                (Value.int IntKind.u64
                                  (IntKind.u64.wrap
                                    (↑(BitVec.ofInt IntKind.u64.bits a |||
                                            BitVec.ofInt IntKind.u64.bits
                                              (IntKind.u64.wrap
                                                (IntKind.u64.wrap
                                                    (IntKind.u8.wrap
                                                      (↑(BitVec.ofInt IntKind.u8.bits n &&&
                                                              BitVec.ofInt IntKind.u8.bits 127).toNat :
                                                        Int)) *
                                                  2 ^ min (IntKind.i64.wrap (7 * i)).toNat IntKind.u64.bits))).toNat :
                                      Int))))]
                          [TO.cells [TV.v (Value.string c), TV.v (Value.int IntKind.i64 r.E)] false] 1)
      else
        bif decide (0 < i) then
          bif decide (n = 0) then some (Exit.exit 0, mkS 73 [(0, TV.ref 0 0 0)] [r.ob] 1)
          else
            if IntKind.i64.wrap (7 * i) < 0 then none
            else
              bif
                  !decide
                      (IntKind.u8.wrap
                          (↑(BitVec.ofInt IntKind.u8.bits n &&& BitVec.ofInt IntKind.u8.bits 128).toNat : Int) =
                        0) then
                fnLoop X Ee an53 lp Try.f53 0 N
                  (mkS 73
                    [(0, TV.ref 0 0 0), (1, TV.v (Value.int IntKind.u64 m)),
                      (5,
                        TV.v
                          (Value.int IntKind.u64
                            (IntKind.u64.wrap
                              (↑(BitVec.ofInt IntKind.u64.bits a |||
                                      BitVec.ofInt IntKind.u64.bits
                                        (IntKind.u64.wrap
                                          (IntKind.u64.wrap
                                              (IntKind.u8.wrap
                                                (↑(BitVec.ofInt IntKind.u8.bits n &&&
                                                        BitVec.ofInt IntKind.u8.bits 127).toNat :
                                                  Int)) *
                                            2 ^ min (IntKind.i64.wrap (7 * i)).toNat IntKind.u64.bits))).toNat :
                                Int)))),
                      (11, TV.v (Value.int IntKind.i64 (IntKind.i64.wrap (i + 1))))]
                    [r.ob] 1)
              else
                bif
                    decide
                      (m <
                        IntKind.u64.wrap
                          (↑(BitVec.ofInt IntKind.u64.bits a |||
                                  BitVec.ofInt IntKind.u64.bits
                                    (IntKind.u64.wrap
                                      (IntKind.u64.wrap
                                          (IntKind.u8.wrap
                                            (↑(BitVec.ofInt IntKind.u8.bits n &&&
                                                    BitVec.ofInt IntKind.u8.bits 127).toNat :
                                              Int)) *
                                        2 ^ min (IntKind.i64.wrap (7 * i)).toNat IntKind.u64.bits))).toNat :
                            Int)) then
                  none
                else
                  (cutB r.S (some (IntKind.i64.wrap (i + 1))) none).bind fun (c : ByteArray) =>
                    some
                      (Exit.ret,
                        mkS 73
                          [(0, TV.ref 0 0 0),
                            (4,
                              TV.v
                                (Value.int IntKind.u64
                                  (IntKind.u64.wrap
                                    (↑(BitVec.ofInt IntKind.u64.bits a |||
                                            BitVec.ofInt IntKind.u64.bits
                                              (IntKind.u64.wrap
                                                (IntKind.u64.wrap
                                                    (IntKind.u8.wrap
                                                      (↑(BitVec.ofInt IntKind.u8.bits n &&&
                                                              BitVec.ofInt IntKind.u8.bits 127).toNat :
                                                        Int)) *
                                                  2 ^ min (IntKind.i64.wrap (7 * i)).toNat IntKind.u64.bits))).toNat :
                                      Int))))]
                          [TO.cells [TV.v (Value.string c), TV.v (Value.int IntKind.i64 r.E)] false] 1)
        else
          if IntKind.i64.wrap (7 * i) < 0 then none
          else
            bif
                !decide
                    (IntKind.u8.wrap
                        (↑(BitVec.ofInt IntKind.u8.bits n &&& BitVec.ofInt IntKind.u8.bits 128).toNat : Int) =
                      0) then
              fnLoop X Ee an53 lp Try.f53 0 N
                (mkS 73
                  [(0, TV.ref 0 0 0), (1, TV.v (Value.int IntKind.u64 m)),
                    (5,
                      TV.v
                        (Value.int IntKind.u64
                          (IntKind.u64.wrap
                            (↑(BitVec.ofInt IntKind.u64.bits a |||
                                    BitVec.ofInt IntKind.u64.bits
                                      (IntKind.u64.wrap
                                        (IntKind.u64.wrap
                                            (IntKind.u8.wrap
                                              (↑(BitVec.ofInt IntKind.u8.bits n &&&
                                                      BitVec.ofInt IntKind.u8.bits 127).toNat :
                                                Int)) *
                                          2 ^ min (IntKind.i64.wrap (7 * i)).toNat IntKind.u64.bits))).toNat :
                              Int)))),
                    (11, TV.v (Value.int IntKind.i64 (IntKind.i64.wrap (i + 1))))]
                  [r.ob] 1)
            else
              bif
                  decide
                    (m <
                      IntKind.u64.wrap
                        (↑(BitVec.ofInt IntKind.u64.bits a |||
                                BitVec.ofInt IntKind.u64.bits
                                  (IntKind.u64.wrap
                                    (IntKind.u64.wrap
                                        (IntKind.u8.wrap
                                          (↑(BitVec.ofInt IntKind.u8.bits n &&&
                                                  BitVec.ofInt IntKind.u8.bits 127).toNat :
                                            Int)) *
                                      2 ^ min (IntKind.i64.wrap (7 * i)).toNat IntKind.u64.bits))).toNat :
                          Int)) then
                none
              else
                (cutB r.S (some (IntKind.i64.wrap (i + 1))) none).bind fun (c : ByteArray) =>
                  some
                    (Exit.ret,
                      mkS 73
                        [(0, TV.ref 0 0 0),
                          (4,
                            TV.v
                              (Value.int IntKind.u64
                                (IntKind.u64.wrap
                                  (↑(BitVec.ofInt IntKind.u64.bits a |||
                                          BitVec.ofInt IntKind.u64.bits
                                            (IntKind.u64.wrap
                                              (IntKind.u64.wrap
                                                  (IntKind.u8.wrap
                                                    (↑(BitVec.ofInt IntKind.u8.bits n &&&
                                                            BitVec.ofInt IntKind.u8.bits 127).toNat :
                                                      Int)) *
                                                2 ^ min (IntKind.i64.wrap (7 * i)).toNat IntKind.u64.bits))).toNat :
                                    Int))))]
                        [TO.cells [TV.v (Value.string c), TV.v (Value.int IntKind.i64 r.E)] false] 1)
else some (Exit.exit 0, mkS 73 [(0, TV.ref 0 0 0)] [r.ob] 1) := by kernel_rfl
theorem round53 (lp : Lp U) (N : Nat) {r : Rd} {m a i c : Int} (h0 : 0 ≤ i) (h1 : i < 10) (h2 : i < r.S.size) (hc : getB r.S i = some c) (h9 : i = 9 → c ≤ 1) (hz : 0 < i → c ≠ 0) :
    fnLoop X Ee an53 lp Try.f53 0 (N + 1) (S53 r m a i) = cond (hiN c) (fnLoop X Ee an53 lp Try.f53 0 N (S53 r m (accN a c i) (i + 1))) (cond (decide (m < accN a c i)) none ((cutB r.S (some (i + 1)) none).bind fun s => some (.ret, Z53 s r.E (accN a c i)))) := by
  have w1 : IntKind.i64.wrap (i + 1) = i + 1 := wr (by omega) (by omega)
  have w7 : ¬ IntKind.i64.wrap (7 * i) < 0 := by rw [wr (a := 7 * i) (by omega) (by omega)]; omega
  rw [r53, decide_eq_true h1, cond_true, decide_eq_false (by omega), cond_false, hc, Option.bind_some]
  by_cases k9 : i = 9
  · have := h9 k9
    rw [decide_eq_true k9, cond_true, decide_eq_false (by omega), cond_false, decide_eq_true (by omega), cond_true, decide_eq_false (hz (by omega)), cond_false, if_neg w7, w1]
    rfl
  · rw [decide_eq_false k9, cond_false]
    by_cases k0 : 0 < i
    · rw [decide_eq_true k0, cond_true, decide_eq_false (hz k0), cond_false, if_neg w7, w1]
      rfl
    · rw [decide_eq_false k0, cond_false, if_neg w7, w1]
      rfl
theorem and127 {n : Nat} (h : n < 256) : IntKind.u8.wrap (↑(BitVec.ofInt IntKind.u8.bits (n : Int) &&& BitVec.ofInt IntKind.u8.bits 127).toNat : Int) = ((n % 128 : Nat) : Int) := by
  have key : ∀ k : Fin 256, (BitVec.ofInt IntKind.u8.bits ((k.val : Nat) : Int) &&& BitVec.ofInt IntKind.u8.bits 127).toNat = k.val % 128 := by decide +kernel
  have := key ⟨n, h⟩
  dsimp only at this
  rw [this, wrap_u8]
  omega
theorem hiN_nat {n : Nat} (h : n < 256) : hiN (n : Int) = decide (128 ≤ n) := by
  have key : ∀ k : Fin 256, hiN ((k.val : Nat) : Int) = decide (128 ≤ k.val) := by decide +kernel
  exact key ⟨n, h⟩
theorem ofInt_nat {n : Nat} (h : n < 2 ^ 64) : (BitVec.ofInt 64 (n : Int)).toNat = n := by
  rw [BitVec.ofInt_natCast, BitVec.toNat_ofNat, Nat.mod_eq_of_lt h]
theorem accN_nat {a n i : Nat} (ha : a < 2 ^ (7 * i)) (hn : n < 256) (hi : i < 10) (hb : a + n % 128 * 2 ^ (7 * i) < 2 ^ 64) : accN (a : Int) (n : Int) (i : Int) = ((a + n % 128 * 2 ^ (7 * i) : Nat) : Int) := by
  have hm : min (IntKind.i64.wrap (7 * (i : Int))).toNat IntKind.u64.bits = 7 * i := by
    rw [wr (a := 7 * (i : Int)) (by omega) (by omega)]
    show min (7 * (i : Int)).toNat 64 = _
    omega
  have hp : n % 128 * 2 ^ (7 * i) < 2 ^ 64 := by omega
  have e1 : IntKind.u64.wrap (IntKind.u64.wrap ((n % 128 : Nat) : Int) * 2 ^ (7 * i)) = ((n % 128 * 2 ^ (7 * i) : Nat) : Int) := by
    rw [u64_id (n := ((n % 128 : Nat) : Int)) (by omega) (by omega)]
    have : ((n % 128 : Nat) : Int) * 2 ^ (7 * i) = ((n % 128 * 2 ^ (7 * i) : Nat) : Int) := by rw [Int.natCast_mul, Int.natCast_pow]; rfl
    rw [this]
    exact u64_id (by omega) (by omega)
  unfold accN
  rw [hm, and127 hn, e1]
  have e2 : (BitVec.ofInt IntKind.u64.bits (a : Int) ||| BitVec.ofInt IntKind.u64.bits ((n % 128 * 2 ^ (7 * i) : Nat) : Int)).toNat = a + n % 128 * 2 ^ (7 * i) := by
    show (BitVec.ofInt 64 (a : Int) ||| BitVec.ofInt 64 ((n % 128 * 2 ^ (7 * i) : Nat) : Int)).toNat = _
    rw [BitVec.toNat_or, ofInt_nat (by omega), ofInt_nat hp]
    have := Nat.shiftLeft_add_eq_or_of_lt ha (n % 128)
    rw [Nat.shiftLeft_eq] at this
    rw [Nat.or_comm, ← this, Nat.add_comm]
  rw [e2]
  exact u64_id (by omega) (by omega)
end Go.Proofs.Ytmcflglkfgnbbaa.Nd

/- Bytes read: a number that was written is read again. -/
namespace Go.Proofs.Ytmcflglkfgnbbaa.Nd
open Go Go.RowKit Go.Proofs.Ytmcflglkfgnbbaa.Eng
set_option linter.unusedVariables false
set_option linter.unusedSimpArgs false
set_option maxRecDepth 20000
theorem tl8_drop (b : ByteArray) (k : Nat) : tl8 (b.extract k b.size) = (tl8 b).drop k := by
  unfold tl8
  rw [ByteArray.data_extract, Array.toList_extract, List.extract_eq_take_drop, List.take_of_length_le]
  rw [List.length_drop, Array.length_toList]
  exact Nat.le_refl _
theorem tl8_take (b : ByteArray) (k : Nat) : tl8 (b.extract 0 k) = (tl8 b).take k := by
  unfold tl8
  rw [ByteArray.data_extract, Array.toList_extract, List.extract_eq_take_drop, List.drop_zero, Nat.sub_zero]
theorem getB_at {b : ByteArray} {p s : List UInt8} {c : UInt8} (h : tl8 b = p ++ c :: s) : getB b (p.length : Int) = some (c.toNat : Int) := by
  have h1 : (tl8 b)[p.length]? = some c := by rw [h, List.getElem?_append_right (Nat.le_refl _), Nat.sub_self]; rfl
  have h2 : b.data[p.length]? = some c := by rw [← Array.getElem?_toList]; exact h1
  unfold getB
  rw [if_pos (by omega), Int.toNat_natCast, h2]
  rfl
theorem cutB_at {b r : ByteArray} {k : Nat} (h : (tl8 b).drop k = tl8 r) (hk : k ≤ b.size) : cutB b (some (k : Int)) none = some r := by
  unfold cutB
  dsimp only
  rw [if_pos (by omega), Int.toNat_natCast]
  congr 1
  exact tl8_inj (by rw [tl8_drop, h])
theorem rounds53 (lp : Lp U) {n m : Nat} (hn : n ≤ m) (h64 : n < 2 ^ 64) {s r : ByteArray} : ∀ (q j : Nat) (p : List UInt8), q = n / 2 ^ (7 * j) → tl8 s = p ++ (bL q ++ tl8 r) → p.length = j → j < 10 → (0 < j → q ≠ 0) →
    ∃ N, fnLoop X Ee an53 lp Try.f53 0 N (S53 ⟨s, 0⟩ m ((n % 2 ^ (7 * j) : Nat) : Int) j) = some (.ret, Z53 r 0 n) := by
  intro q
  induction q using Nat.strongRecOn with
  | ind q ih =>
    intro j p hq hs hp hj h0
    have hlen : s.size = p.length + ((bL q).length + (tl8 r).length) := by rw [← tl8_len, hs, List.length_append, List.length_append]
    have hmod : n % 2 ^ (7 * (j + 1)) = n % 2 ^ (7 * j) + q % 128 * 2 ^ (7 * j) := by
      rw [show 7 * (j + 1) = 7 * j + 7 by omega, Nat.pow_add, Nat.mod_mul, ← hq, Nat.mul_comm (2 ^ (7 * j))]
    have hlt : n % 2 ^ (7 * j) < 2 ^ (7 * j) := Nat.mod_lt _ (Nat.two_pow_pos _)
    have hle : n % 2 ^ (7 * (j + 1)) ≤ n := Nat.mod_le _ _
    have q9 : j = 9 → q ≤ 1 := fun h => by
      subst h
      have : n / 2 ^ (7 * 9) < 2 := (Nat.div_lt_iff_lt_mul (by decide)).2 (by omega)
      omega
    by_cases h : q < 128
    · have hb : bL q = [UInt8.ofNat q] := by unfold bL; rw [if_pos h]
      rw [hb] at hs hlen
      have hc := getB_at (c := UInt8.ofNat q) (s := tl8 r) (p := p) hs
      rw [show (UInt8.ofNat q).toNat = q by rw [UInt8.toNat_ofNat']; omega, hp] at hc
      have hlen : s.size = j + (1 + (tl8 r).length) := by rw [hlen, hp]; rfl
      have hall : n % 2 ^ (7 * (j + 1)) = n := by
        rw [hmod, Nat.mod_eq_of_lt h, hq, Nat.add_comm, Nat.mul_comm]
        exact Nat.div_add_mod n _
      have ha := accN_nat hlt (show q < 256 by omega) hj (by rw [← hmod]; omega)
      rw [← hmod, hall] at ha
      refine ⟨1, ?_⟩
      rw [round53 lp 0 (r := ⟨s, 0⟩) (c := (q : Int)) (by omega) (by omega) (by show (j : Int) < (s.size : Int); omega) hc (fun h9 => by have := q9 (by omega); omega) (fun hj0 => by have := h0 (by omega); omega),
        hiN_nat (by omega), decide_eq_false (by omega), cond_false, ha, decide_eq_false (by omega), cond_false]
      have hcut := cutB_at (b := s) (r := r) (k := j + 1) (by
        rw [hs, ← hp]; simp) (by omega)
      rw [Int.natCast_add] at hcut
      show ((cutB s (some ((j : Int) + 1)) none).bind _) = _
      rw [show ((j : Int) + 1) = (j : Int) + ((1 : Nat) : Int) from rfl, hcut]
      rfl
    · have hb : bL q = UInt8.ofNat (128 + q % 128) :: bL (q / 128) := by conv => lhs; unfold bL; rw [if_neg h]
      rw [hb] at hs hlen
      have hc := getB_at (c := UInt8.ofNat (128 + q % 128)) (s := bL (q / 128) ++ tl8 r) (p := p) hs
      rw [show (UInt8.ofNat (128 + q % 128)).toNat = 128 + q % 128 by rw [UInt8.toNat_ofNat']; omega, hp] at hc
      have hlen : s.size = j + (((bL (q / 128)).length + 1) + (tl8 r).length) := by rw [hlen, hp]; rfl
      have ha := accN_nat (n := 128 + q % 128) hlt (by omega) hj (by rw [show (128 + q % 128) % 128 = q % 128 by omega, ← hmod]; omega)
      rw [show (128 + q % 128) % 128 = q % 128 by omega, ← hmod] at ha
      have hj9 : j ≠ 9 := fun h9 => by have := q9 h9; omega
      obtain ⟨N, hN⟩ := ih (q / 128) (by omega) (j + 1) (p ++ [UInt8.ofNat (128 + q % 128)]) (by
        rw [hq, Nat.div_div_eq_div_mul, show 7 * (j + 1) = 7 * j + 7 by omega, Nat.pow_add]) (by rw [hs, List.append_assoc]; rfl) (by rw [List.length_append, hp]; rfl) (by omega) (by omega)
      refine ⟨N + 1, ?_⟩
      rw [round53 lp N (r := ⟨s, 0⟩) (c := ((128 + q % 128 : Nat) : Int)) (by omega) (by omega) (by show (j : Int) < (s.size : Int); omega) hc (fun h9 => by omega) (fun hj0 => by omega),
        hiN_nat (by omega), decide_eq_true (by omega), cond_true, ha]
      exact hN
/-- Bytes that begin with a number up to a limit; the number; what is left. -/
def RN (s : ByteArray) (m : Int) : Prop := ∃ (n : Nat) (r : ByteArray), tl8 s = bL n ++ tl8 r ∧ (n : Int) ≤ m ∧ n < 2 ^ 64
noncomputable instance (s : ByteArray) (m : Int) : Decidable (RN s m) := Classical.propDecidable _
open Classical in
noncomputable def nvN (s : ByteArray) : Int := if h : ∃ (n : Nat) (r : ByteArray), tl8 s = bL n ++ tl8 r then (h.choose : Int) else 0
open Classical in
noncomputable def nrN (s : ByteArray) : ByteArray := if h : ∃ (n : Nat) (r : ByteArray), tl8 s = bL n ++ tl8 r then h.choose_spec.choose else .empty
theorem nvN_of {s : ByteArray} {n : Nat} {r : ByteArray} (h : tl8 s = bL n ++ tl8 r) : nvN s = n ∧ nrN s = r := by
  have hx : ∃ (n : Nat) (r : ByteArray), tl8 s = bL n ++ tl8 r := ⟨n, r, h⟩
  have h2 := hx.choose_spec.choose_spec
  obtain ⟨h3, h4⟩ := bL_inj _ _ (h.symm.trans h2)
  unfold nvN nrN
  rw [dif_pos hx, dif_pos hx]
  exact ⟨by rw [← h3], (tl8_inj h4).symm⟩
def P53 (r : Rd) (m a i : Int) : Prop := r.E = 0 ∧ RN r.S m ∧ a = 0 ∧ i = 0
noncomputable instance (r : Rd) (m a i : Int) : Decidable (P53 r m a i) := Classical.propDecidable _
def dl53 (s : TS U) : Option (Rd × Int × Int × Int) := match told s 73 [0, 1, 5, 11] 1, s.objs with
  | some [a0, a1, a2, a3], [o0] =>
    match o0 with
    | .cells [q0, q1] false =>
      match q0 with
      | .v (.string r_S) =>
        match q1 with
        | .v (.int .i64 r_E) =>
          match a0 with
          | .ref 0 0 0 =>
            match a1 with
            | .v (.int .u64 m) =>
              match a2 with
              | .v (.int .u64 a) =>
                match a3 with
                | .v (.int .i64 i) =>
                  some ((⟨r_S, r_E⟩ : Rd), m, a, i)
                | _ => none
              | _ => none
            | _ => none
          | _ => none
        | _ => none
      | _ => none
    | _ => none
  | _, _ => none
theorem dl53_ok {s : TS U} {r : Rd} {m : Int} {a : Int} {i : Int} (h : dl53 s = some (r, m, a, i)) : s = mkS (U := U) 73 ([0, 1, 5, 11].zip ([.ref 0 0 0, .v (.int .u64 m), .v (.int .u64 a), .v (.int .i64 i)] : List (TV U))) ([r.ob] : List (TO U)) 1 := by
  unfold dl53 at h
  split at h <;> try (cases h; done)
  rename_i ht ho
  have hs := told_ok ht
  rw [ho] at hs
  repeat' split at h
  all_goals first | (cases h; done) | (cases h; exact hs)
noncomputable def lc53 : LC U := .of dl53 (fun (r, m, a, i) => P53 r m a i) .ret (fun (r, m, a, i) => Z53 (nrN r.S) 0 (nvN r.S))
noncomputable def lp53 : Lp U := lpL [(0, lc53)]
theorem lp53_ok : ∀ c, Try.f53.body = some c → LpOk X Ee an53 lp53 (loops c 0) := lpL_ok (by kernel_rfl) fun b L hm st p hs => by
  cases hm with
  | tail _ h => cases h
  | head =>
    obtain ⟨⟨r, m, a, i⟩, hx, ⟨h1, ⟨n, t, h2, h3, h4⟩, rfl, rfl⟩, rfl⟩ := LC.of_some hs
    obtain rfl := dl53_ok hx
    obtain ⟨s, e⟩ := r
    obtain rfl : e = 0 := h1
    obtain ⟨e1, e2⟩ := nvN_of h2
    obtain ⟨M, rfl⟩ : ∃ M : Nat, m = M := ⟨m.toNat, by omega⟩
    obtain ⟨N, hN⟩ := rounds53 (lpL [(0, lc53)]) (n := n) (m := M) (by omega) h4 (s := s) (r := t) n 0 [] (by rw [Nat.mul_zero, Nat.pow_zero, Nat.div_one]) h2 rfl (by omega) (by omega)
    rw [Nat.mul_zero, Nat.pow_zero, Nat.mod_one] at hN
    refine ⟨N, ?_⟩
    show fnLoop X Ee an53 (lpL [(0, lc53)]) Try.f53 0 N (S53 ⟨s, 0⟩ M 0 0) = some (.ret, Z53 (nrN s) 0 (nvN s))
    rw [e1, e2]
    exact hN
theorem e53 (r : Rd) (m : Int) : (evFn X Ee an53 lp53 Try.f53 [r.ob] [TV.ref 0 0 0, TV.v (Value.int IntKind.u64 m)]
  fun (o : List (TO X.U)) (v : TV X.U) => some (o, v)) =
  if True then
  bif !decide (r.E = 0) then some ([r.ob], TV.v (Value.int IntKind.u64 0))
  else
    if P53 r m 0 0 then
      some
        ([TO.cells [TV.v (Value.string (nrN r.S)), TV.v (Value.int IntKind.i64 0)] false],
          TV.v (Value.int IntKind.u64 (nvN r.S)))
    else none
else none := by kernel_rfl
def PNv (r : Rd) (m : Int) : Prop := r.E = 0 ∧ RN r.S m
noncomputable instance (r : Rd) (m : Int) : Decidable (PNv r m) := Classical.propDecidable _
def dNv (objs : List (TO U)) (args : List (TV U)) : Option (Rd × Int) := match objs, args with
  | [o0], [a0, a1] =>
    match o0 with
    | .cells [q0, q1] false =>
      match q0 with
      | .v (.string r_S) =>
        match q1 with
        | .v (.int .i64 r_E) =>
          match a0 with
          | .ref 0 0 0 =>
            match a1 with
            | .v (.int .u64 m) =>
              some ((⟨r_S, r_E⟩ : Rd), m)
            | _ => none
          | _ => none
        | _ => none
      | _ => none
    | _ => none
  | _, _ => none
theorem dNv_ok {objs : List (TO U)} {args : List (TV U)} {r : Rd} {m : Int} (h : dNv objs args = some (r, m)) : objs = [r.ob] ∧ args = [.ref 0 0 0, .v (.int .u64 m)] := by
  unfold dNv at h
  repeat' split at h
  all_goals first | (cases h; done) | (cases h; exact ⟨rfl, rfl⟩)
noncomputable def sNv : Spc U := .of dNv (fun (r, m) => PNv r m) (fun (r, m) => [Rd.ob ⟨nrN r.S, 0⟩]) fun (r, m) => .v (.int .u64 (nvN r.S))
theorem sNv_ok : SpecOk Try.prog 53 sNv := by
  refine fn_ok X_ok mixed Ee_ok an53 lp53 Try.func53 (by kernel_rfl) (by kernel_rfl) lp53_ok fun objs args x hx hp => ?_
  obtain ⟨r, m⟩ := x
  obtain ⟨rfl, rfl⟩ := dNv_ok hx
  obtain ⟨h1, h2⟩ := hp
  refine (e53 r m).trans ?_
  rw [if_pos trivial, decide_eq_true h1, Bool.not_true, cond_false, if_pos ⟨h1, h2, rfl, rfl⟩]
  rfl
/-! ### So many bytes -/
def PTk (r : Rd) (n : Int) : Prop := r.E = 0 ∧ 0 ≤ n ∧ n ≤ r.S.size
instance (r : Rd) (n : Int) : Decidable (PTk r n) := by unfold PTk; infer_instance
def tkB (s : ByteArray) (n : Int) : ByteArray := s.extract 0 n.toNat
def drB (s : ByteArray) (n : Int) : ByteArray := s.extract n.toNat s.size
theorem e79 (r : Rd) (n : Int) : (evFn X Ee an0 lp0 Try.f79 [r.ob] [TV.ref 0 0 0, TV.v (Value.int IntKind.i64 n)]
  fun (o : List (TO X.U)) (v : TV X.U) => some (o, v)) =
  if True then
  bif !decide (r.E = 0) then none
  else
    bif decide (n < 0) then none
    else
      bif decide ((↑r.S.size : Int) < n) then none
      else
        (cutB r.S none (some n)).bind fun (c : ByteArray) =>
          (cutB r.S (some n) none).bind fun (c_1 : ByteArray) =>
            some ([TO.cells [TV.v (Value.string c_1), TV.v (Value.int IntKind.i64 r.E)] false], TV.v (Value.string c))
else none := by kernel_rfl
def dTk (objs : List (TO U)) (args : List (TV U)) : Option (Rd × Int) := match objs, args with
  | [o0], [a0, a1] =>
    match o0 with
    | .cells [q0, q1] false =>
      match q0 with
      | .v (.string r_S) =>
        match q1 with
        | .v (.int .i64 r_E) =>
          match a0 with
          | .ref 0 0 0 =>
            match a1 with
            | .v (.int .i64 n) =>
              some ((⟨r_S, r_E⟩ : Rd), n)
            | _ => none
          | _ => none
        | _ => none
      | _ => none
    | _ => none
  | _, _ => none
theorem dTk_ok {objs : List (TO U)} {args : List (TV U)} {r : Rd} {n : Int} (h : dTk objs args = some (r, n)) : objs = [r.ob] ∧ args = [.ref 0 0 0, .v (.int .i64 n)] := by
  unfold dTk at h
  repeat' split at h
  all_goals first | (cases h; done) | (cases h; exact ⟨rfl, rfl⟩)
def sTk : Spc U := .of dTk (fun (r, n) => PTk r n) (fun (r, n) => [Rd.ob ⟨drB r.S n, 0⟩]) fun (r, n) => .v (.string (tkB r.S n))
theorem sTk_ok : SpecOk Try.prog 79 sTk := by
  refine fn_ok X_ok mixed Ee_ok an0 lp0 Try.func79 (by kernel_rfl) (by kernel_rfl) (lp0_ok (by kernel_rfl)) fun objs args x hx hp => ?_
  obtain ⟨r, n⟩ := x
  obtain ⟨rfl, rfl⟩ := dTk_ok hx
  obtain ⟨h1, h2, h3⟩ := hp
  refine (e79 r n).trans ?_
  rw [if_pos trivial, decide_eq_true h1, Bool.not_true, cond_false, decide_eq_false (by omega), cond_false, decide_eq_false (by omega), cond_false]
  unfold cutB
  dsimp only
  rw [if_pos ⟨h2, h3⟩, Option.bind_some, if_pos ⟨h2, h3⟩, Option.bind_some, h1]
  rfl
noncomputable def Ex2 : FuncId → Option (Spc U)
  | 53 => some sNv
  | 54 => some sErr
  | 79 => some sTk
  | _ => none
theorem Ex2_ok : ∀ f S, Ex2 f = some S → SpecOk Try.prog f S := fun f S h => by
  unfold Ex2 at h
  split at h
  · cases h; exact sNv_ok
  · cases h; exact sErr_ok
  · cases h; exact sTk_ok
  · cases h
theorem e55 (r : Rd) (m : Int) : (evFn X Ex2 an0 lp0 Try.f55 [r.ob] [TV.ref 0 0 0, TV.v (Value.int IntKind.i64 m)]
  fun (o : List (TO X.U)) (v : TV X.U) => some (o, v)) =
  if PNv r (IntKind.u64.wrap (if 65536 < if m < 0 then 0 else m then 65536 else if m < 0 then 0 else m)) then
  if PTk { S := nrN r.S, E := 0 } (IntKind.i64.wrap (nvN r.S)) then
    some
      ([TO.cells [TV.v (Value.string (drB (nrN r.S) (IntKind.i64.wrap (nvN r.S)))), TV.v (Value.int IntKind.i64 0)]
            false],
        TV.v (Value.string (tkB (nrN r.S) (IntKind.i64.wrap (nvN r.S)))))
  else none
else none := by kernel_rfl
theorem e57 (r : Rd) : (evFn X Ex2 an0 lp0 Try.f57 [r.ob] [TV.ref 0 0 0] fun (o : List (TO X.U)) (v : TV X.U) =>
  some (o, v)) =
  if True then
  bif decide (r.E = 0) then
    bif decide (0 < (↑r.S.size : Int)) then none
    else if True then some ([r.ob], TV.v (Value.int IntKind.i64 r.E)) else none
  else if True then some ([r.ob], TV.v (Value.int IntKind.i64 r.E)) else none
else none := by kernel_rfl
end Go.Proofs.Ytmcflglkfgnbbaa.Nd

/- Bytes read: texts, what a key has. -/
namespace Go.Proofs.Ytmcflglkfgnbbaa.Nd
open Go Go.RowKit Go.Proofs.Ytmcflglkfgnbbaa.Eng
set_option linter.unusedVariables false
set_option linter.unusedSimpArgs false
set_option maxRecDepth 20000
theorem numB_nat (n : Nat) (h : n < 18446744073709551616) : tl8 (numB (IntKind.u64.wrap (n : Int))) = bL n := by
  rw [numB_bL, u64_id (by omega) (by omega), Int.toNat_natCast]
theorem tl8_textB (t : ByteArray) (h : t.size ≤ 65536) : tl8 (textB t) = bL t.size ++ tl8 t := by
  unfold textB
  rw [tl8_append, numB_nat _ (by omega)]
noncomputable def tvT (s : ByteArray) : ByteArray := tkB (nrN s) (IntKind.i64.wrap (nvN s))
noncomputable def trT (s : ByteArray) : ByteArray := drB (nrN s) (IntKind.i64.wrap (nvN s))
/-- Bytes that begin with a text of so many bytes at most. -/
def RT (s : ByteArray) (m : Int) : Prop := ∃ t r : ByteArray, tl8 s = tl8 (textB t) ++ tl8 r ∧ (t.size : Int) ≤ m ∧ m ≤ 65536
theorem tvT_of {s t r : ByteArray} (h : tl8 s = tl8 (textB t) ++ tl8 r) (ht : t.size ≤ 65536) : tvT s = t ∧ trT s = r ∧ nvN s = t.size ∧ tl8 (nrN s) = tl8 t ++ tl8 r := by
  rw [tl8_textB t ht, List.append_assoc, ← tl8_append] at h
  obtain ⟨h1, h2⟩ := nvN_of h
  have hw : IntKind.i64.wrap (t.size : Int) = t.size := wr (by omega) (by omega)
  refine ⟨?_, ?_, h1, by rw [h2, tl8_append]⟩
  · unfold tvT tkB
    rw [h1, h2, hw, Int.toNat_natCast]
    exact tl8_inj (by rw [tl8_take, tl8_append, ← tl8_len, List.take_left])
  · unfold trT drB
    rw [h1, h2, hw, Int.toNat_natCast]
    exact tl8_inj (by rw [tl8_drop, tl8_append, ← tl8_len t, List.drop_left])
def PTx (r : Rd) (m : Int) : Prop := r.E = 0 ∧ RT r.S m
noncomputable instance (r : Rd) (m : Int) : Decidable (PTx r m) := Classical.propDecidable _
noncomputable def sTx : Spc U := .of dTk (fun (r, m) => PTx r m) (fun (r, m) => [Rd.ob ⟨trT r.S, 0⟩]) fun (r, m) => .v (.string (tvT r.S))
theorem sTx_ok : SpecOk Try.prog 55 sTx := by
  refine fn_ok X_ok mixed Ex2_ok an0 lp0 Try.func55 (by kernel_rfl) (by kernel_rfl) (lp0_ok (by kernel_rfl)) fun objs args x hx hp => ?_
  obtain ⟨r, m⟩ := x
  obtain ⟨rfl, rfl⟩ := dTk_ok hx
  obtain ⟨h1, t, q, h2, h3, h4⟩ := hp
  refine (e55 r m).trans ?_
  obtain ⟨k1, k2, k3, k4⟩ := tvT_of h2 (by omega)
  have hm : (if (65536 : Int) < if m < 0 then 0 else m then 65536 else if m < 0 then 0 else m) = m := by
    rw [if_neg (by omega), if_neg (by omega)]
  have hw : IntKind.i64.wrap (t.size : Int) = t.size := wr (by omega) (by omega)
  have hs : (nrN r.S).size = t.size + q.size := by rw [← tl8_len, k4, List.length_append, tl8_len, tl8_len]
  rw [hm, u64_id (n := m) (by omega) (by omega), if_pos ⟨h1, t.size, t ++ q, by rw [h2, tl8_textB t (by omega), tl8_append, List.append_assoc], h3, by omega⟩, k3, hw, if_pos ⟨rfl, by show (0 : Int) ≤ _; omega, by show (t.size : Int) ≤ ((nrN r.S).size : Int); omega⟩]
  show some ([Rd.ob ⟨drB (nrN r.S) (t.size : Int), 0⟩], TV.v (.string (tkB (nrN r.S) (t.size : Int)))) = some ([Rd.ob ⟨trT r.S, 0⟩], TV.v (.string (tvT r.S)))
  unfold trT tvT
  rw [k3, hw]
def PEd (r : Rd) : Prop := r.E = 0 ∧ r.S.size = 0
instance (r : Rd) : Decidable (PEd r) := by unfold PEd; infer_instance
def sEd : Spc U := .of dRd (fun r => PEd r) (fun r => [r.ob]) fun r => .v (.int .i64 0)
theorem sEd_ok : SpecOk Try.prog 57 sEd := by
  refine fn_ok X_ok mixed Ex2_ok an0 lp0 Try.func57 (by kernel_rfl) (by kernel_rfl) (lp0_ok (by kernel_rfl)) fun objs args r hx hp => ?_
  obtain ⟨rfl, rfl⟩ := dRd_ok hx
  obtain ⟨h1, h2⟩ := hp
  refine (e57 r).trans ?_
  rw [if_pos trivial, decide_eq_true h1, cond_true, decide_eq_false (by omega), cond_false, if_pos trivial, h1]
noncomputable def Ex3 : FuncId → Option (Spc U)
  | 53 => some sNv
  | 55 => some sTx
  | _ => none
theorem Ex3_ok : ∀ f S, Ex3 f = some S → SpecOk Try.prog f S := fun f S h => by
  unfold Ex3 at h
  split at h
  · cases h; exact sNv_ok
  · cases h; exact sTx_ok
  · cases h
theorem e56 (r : Rd) : (evFn X Ex3 an0 lp0 Try.f56 [r.ob] [TV.ref 0 0 0] fun (o : List (TO X.U)) (v : TV X.U) =>
  some (o, v)) =
  if PNv r 1 then
  bif decide (nvN r.S = 0) then
    if PTx { S := nrN r.S, E := 0 } 48 then
      some
        ([TO.cells [TV.v (Value.string (trT (nrN r.S))), TV.v (Value.int IntKind.i64 0)] false],
          TV.agg
            [TV.v (Value.string (tvT (nrN r.S))), TV.v (Value.int IntKind.i64 (-1)), TV.v (Value.int IntKind.i64 0)])
    else none
  else
    if PNv { S := nrN r.S, E := 0 } 16383 then
      if PNv { S := nrN (nrN r.S), E := 0 } 65536 then
        bif decide (IntKind.i64.wrap (nvN (nrN (nrN r.S))) ≤ 48) then none
        else
          some
            ([TO.cells [TV.v (Value.string (nrN (nrN (nrN r.S)))), TV.v (Value.int IntKind.i64 0)] false],
              TV.agg
                [TV.v (Value.string (⟨#[]⟩ : ByteArray)), TV.v (Value.int IntKind.i64 (IntKind.i64.wrap (nvN (nrN r.S)))),
                  TV.v (Value.int IntKind.i64 (IntKind.i64.wrap (nvN (nrN (nrN r.S)))))])
      else none
    else none
else none := by kernel_rfl
def valB (v : R33) : ByteArray := cond (decide (0 ≤ v.Page)) (⟨#[1]⟩ ++ numB (IntKind.u64.wrap v.Page) ++ numB (IntKind.u64.wrap v.Len)) (⟨#[0]⟩ ++ textB v.Data)
theorem entB_valB (k : ByteArray) (v : R33) : tl8 (entB k v) = tl8 (textB k) ++ tl8 (valB v) := by
  unfold entB valB
  cases decide (0 ≤ v.Page) <;> simp only [cond_true, cond_false, tl8_append, List.append_assoc]
/-- What a key may have. -/
def Vok (v : R33) : Prop := (0 ≤ v.Page → v.Page ≤ 16383 ∧ 48 < v.Len ∧ v.Len ≤ 65536 ∧ v.Data = ⟨#[]⟩) ∧ (v.Page < 0 → v.Page = -1 ∧ v.Len = 0 ∧ v.Data.size ≤ 48)
noncomputable def vvR (s : ByteArray) : R33 := cond (decide (nvN s = 0)) ⟨tvT (nrN s), -1, 0⟩ ⟨⟨#[]⟩, IntKind.i64.wrap (nvN (nrN s)), IntKind.i64.wrap (nvN (nrN (nrN s)))⟩
noncomputable def vrR (s : ByteArray) : ByteArray := cond (decide (nvN s = 0)) (trT (nrN s)) (nrN (nrN (nrN s)))
def RV (s : ByteArray) : Prop := ∃ (v : R33) (q : ByteArray), Vok v ∧ tl8 s = tl8 (valB v) ++ tl8 q
theorem bL0 : bL 0 = [0] := by unfold bL; rfl
theorem bL1 : bL 1 = [1] := by unfold bL; rfl
theorem val_data {s q : ByteArray} {v : R33} (h : tl8 s = tl8 (valB v) ++ tl8 q) (hv : v.Page < 0) : tl8 s = bL 0 ++ tl8 (textB v.Data ++ q) := by
  rw [h, tl8_append, bL0]
  unfold valB
  rw [decide_eq_false (by omega), cond_false, tl8_append, List.append_assoc]
  rfl
theorem val_page {s q : ByteArray} {v : R33} (h : tl8 s = tl8 (valB v) ++ tl8 q) (hv : 0 ≤ v.Page) : tl8 s = bL 1 ++ tl8 (numB (IntKind.u64.wrap v.Page) ++ (numB (IntKind.u64.wrap v.Len) ++ q)) := by
  rw [h, tl8_append, tl8_append, bL1]
  unfold valB
  rw [decide_eq_true hv, cond_true, tl8_append, tl8_append, List.append_assoc, List.append_assoc]
  rfl
theorem numB_pos {n : Int} (h : 0 ≤ n) (h2 : n < 18446744073709551616) (r : ByteArray) : tl8 (numB (IntKind.u64.wrap n) ++ r) = bL n.toNat ++ tl8 r := by
  rw [tl8_append, numB_bL, u64_id h h2]
theorem vv_of {s q : ByteArray} {v : R33} (hv : Vok v) (h : tl8 s = tl8 (valB v) ++ tl8 q) : vvR s = v ∧ vrR s = q := by
  obtain ⟨D, P, L⟩ := v
  obtain ⟨h1, h2⟩ := hv
  dsimp only at h1 h2
  by_cases hp : 0 ≤ P
  · obtain ⟨g1, g2, g3, rfl⟩ := h1 hp
    obtain ⟨e1, e2⟩ := nvN_of (val_page h hp)
    obtain ⟨e3, e4⟩ := nvN_of (numB_pos (n := P) hp (by omega) (numB (IntKind.u64.wrap L) ++ q))
    obtain ⟨e5, e6⟩ := nvN_of (numB_pos (n := L) (by omega) (by omega) q)
    unfold vvR vrR
    rw [e1, e2]
    dsimp only at e3 e4 ⊢
    rw [e3, e4, e5, e6]
    rw [decide_eq_false (by decide), cond_false, cond_false, wr (a := ((P.toNat : Nat) : Int)) (by omega) (by omega), wr (a := ((L.toNat : Nat) : Int)) (by omega) (by omega), Int.toNat_of_nonneg hp, Int.toNat_of_nonneg (by omega)]
    exact ⟨rfl, rfl⟩
  · obtain ⟨rfl, rfl, g3⟩ := h2 (by omega)
    obtain ⟨e1, e2⟩ := nvN_of (val_data h (by show (-1 : Int) < 0; omega))
    obtain ⟨k1, k2, _, _⟩ := tvT_of (tl8_append (textB D) q) (by omega)
    unfold vvR vrR
    rw [e1, e2]
    dsimp only
    rw [k1, k2]
    exact ⟨rfl, rfl⟩
def PVv (r : Rd) : Prop := r.E = 0 ∧ RV r.S
noncomputable instance (r : Rd) : Decidable (PVv r) := Classical.propDecidable _
noncomputable def sVv : Spc U := .of dRd (fun r => PVv r) (fun r => [Rd.ob ⟨vrR r.S, 0⟩]) fun r => (vvR r.S).vV
theorem sVv_ok : SpecOk Try.prog 56 sVv := by
  refine fn_ok X_ok mixed Ex3_ok an0 lp0 Try.func56 (by kernel_rfl) (by kernel_rfl) (lp0_ok (by kernel_rfl)) fun objs args r hx hp => ?_
  obtain ⟨rfl, rfl⟩ := dRd_ok hx
  obtain ⟨h0, v, q, hv, h⟩ := hp
  obtain ⟨s, e⟩ := r
  obtain rfl : e = 0 := h0
  have h : tl8 s = tl8 (valB v) ++ tl8 q := h
  refine (e56 ⟨s, 0⟩).trans ?_
  dsimp only
  obtain ⟨D, P, L⟩ := v
  have hv' := hv
  obtain ⟨h1, h2⟩ := hv
  dsimp only at h1 h2
  by_cases hp : 0 ≤ P
  · obtain ⟨g1, g2, g3, rfl⟩ := h1 hp
    have w1 := val_page h hp
    have w2 := numB_pos (n := P) hp (by omega) (numB (IntKind.u64.wrap L) ++ q)
    have w3 := numB_pos (n := L) (by omega) (by omega) q
    obtain ⟨e1, e2⟩ := nvN_of w1
    obtain ⟨e3, e4⟩ := nvN_of w2
    obtain ⟨e5, e6⟩ := nvN_of w3
    dsimp only at e2 w2
    have c1 : PNv ⟨s, 0⟩ 1 := ⟨rfl, _, _, w1, by decide, by decide⟩
    have c2 : PNv ⟨nrN s, 0⟩ 16383 := ⟨rfl, _, _, by rw [e2]; exact w2, by omega, by omega⟩
    have c3 : PNv ⟨nrN (nrN s), 0⟩ 65536 := ⟨rfl, _, _, by rw [e2, e4]; exact w3, by omega, by omega⟩
    rw [if_pos c1, if_pos c2, if_pos c3]
    have hz : decide (nvN s = 0) = false := by rw [e1]; rfl
    have hL : decide (IntKind.i64.wrap (nvN (nrN (nrN s))) ≤ 48) = false := by rw [e2, e4, e5, wr (by omega) (by omega)]; exact decide_eq_false (by omega)
    unfold vvR vrR
    rw [hz, hL]
    rfl
  · obtain ⟨rfl, rfl, g3⟩ := h2 (by omega)
    have w1 := val_data h (by show (-1 : Int) < 0; omega)
    obtain ⟨e1, e2⟩ := nvN_of w1
    have c1 : PNv ⟨s, 0⟩ 1 := ⟨rfl, _, _, w1, by decide, by decide⟩
    have c2 : PTx ⟨nrN s, 0⟩ 48 := ⟨rfl, D, q, by rw [e2]; exact tl8_append _ _, by omega, by decide⟩
    rw [if_pos c1, if_pos c2]
    have hz : decide (nvN s = 0) = true := by rw [e1]; rfl
    unfold vvR vrR
    rw [hz]
    rfl
end Go.Proofs.Ytmcflglkfgnbbaa.Nd

/- Bytes read: nodes. -/
namespace Go.Proofs.Ytmcflglkfgnbbaa.Nd
open Go Go.RowKit Go.Proofs.Ytmcflglkfgnbbaa.Eng
set_option linter.unusedVariables false
set_option linter.unusedSimpArgs false
set_option maxRecDepth 20000
noncomputable def Eg : FuncId → Option (Spc U)
  | 52 => some sNew
  | 53 => some sNv
  | 54 => some sErr
  | 55 => some sTx
  | 56 => some sVv
  | 57 => some sEd
  | _ => none
theorem Eg_ok : ∀ f S, Eg f = some S → SpecOk Try.prog f S := fun f S h => by
  unfold Eg at h
  split at h
  · cases h; exact sNew_ok
  · cases h; exact sNv_ok
  · cases h; exact sErr_ok
  · cases h; exact sTx_ok
  · cases h; exact sVv_ok
  · cases h; exact sEd_ok
  · cases h
def an24 : Ann := ⟨fun | 0 => 805306578 | 2 => 1168 | _ => 0, fun | 0 => 240 | 2 => 176 | _ => 0, fun _ => [], false⟩
/-- The rows of a leaf that is read: no row yet, or two. -/
def lC (ks : List ByteArray) : List (TV U) := match ks with
  | [] => [nlv, nlv, nlv]
  | _ :: _ => [.full 3, .full 4, nlv]
def lR (ks : List ByteArray) (vs : List R33) : List (TO U) := match ks with
  | [] => []
  | _ :: _ => [.row .str ks false, .row .t33 vs false]
def iC (ks : List ByteArray) : List (TV U) := match ks with
  | [] => [nlv, nlv, .full 3]
  | _ :: _ => [.full 3, nlv, .full 4]
def iR (ks : List ByteArray) (ki : List Int) : List (TO U) := match ks with
  | [] => [.row .i64 ki false]
  | _ :: _ => [.row .str ks false, .row .i64 ki false]
def S24 (L : Bool) (t : ByteArray) (m i : Int) (c : List (TV U)) (r : List (TO U)) : TS U := mkS 85 [(1, .v (.bool L)), (4, .ref 0 0 0), (6, .ref 1 0 0), (7, .ref 2 0 0), (28, .v (.int .i64 m)), (29, .v (.int .i64 i))]
  ([.cells [.v (.bool false), nlv, nlv, nlv] false, Rd.ob ⟨t, 0⟩, .cells (.v (.bool L) :: c) false] ++ r) 0
def Z24 (L : Bool) (t : ByteArray) (c : List (TV U)) (r : List (TO U)) : TS U := mkS 85 [(4, .ref 0 0 0), (6, .ref 1 0 0), (7, .ref 2 0 0)] ([.cells [.v (.bool false), nlv, nlv, nlv] false, Rd.ob ⟨t, 0⟩, .cells (.v (.bool L) :: c) false] ++ r) 0
theorem r24l (lp : Lp U) (N : Nat) (t : ByteArray) (m i : Int) (ks : List ByteArray) (vs : List R33) (h : ks = [] → vs = []) : fnLoop X Eg an24 lp Try.f24 0 N.succ (S24 true t m i (lC ks) (lR ks vs)) =
    cond (decide (i < m)) (if True then (if PTx ⟨t, 0⟩ 64 then (if (ks.length + 1) * 16 ≤ 140737488355328 then (if PVv ⟨trT t, 0⟩ then (if (vs.length + 1) * 32 ≤ 140737488355328 then
      fnLoop X Eg an24 lp Try.f24 0 N (S24 true (vrR (trT t)) m (IntKind.i64.wrap (i + 1)) (lC (ks ++ [tvT t])) (lR (ks ++ [tvT t]) (vs ++ [vvR (trT t)]))) else none) else none) else none) else none) else none) (some (.exit 0, Z24 true t (lC ks) (lR ks vs))) := by
  cases ks with
  | nil => obtain rfl := h rfl; kernel_rfl
  | cons x xs => kernel_rfl
theorem r24i (lp : Lp U) (N : Nat) (t : ByteArray) (m i : Int) (ks : List ByteArray) (ki : List Int) : fnLoop X Eg an24 lp Try.f24 0 N.succ (S24 false t m i (iC ks) (iR ks ki)) =
    cond (decide (i < m)) (if True then (if PTx ⟨t, 0⟩ 64 then (if (ks.length + 1) * 16 ≤ 140737488355328 then (if PNv ⟨trT t, 0⟩ 16383 then (if (ki.length + 1) * 8 ≤ 140737488355328 then
      fnLoop X Eg an24 lp Try.f24 0 N (S24 false (nrN (trT t)) m (IntKind.i64.wrap (i + 1)) (iC (ks ++ [tvT t])) (iR (ks ++ [tvT t]) (ki ++ [IntKind.i64.wrap (nvN (trT t))]))) else none) else none) else none) else none) else none) (some (.exit 0, Z24 false t (iC ks) (iR ks ki))) := by
  cases ks <;> kernel_rfl
/-- The bytes of all pieces. -/
def allB (l : List ByteArray) : List UInt8 := l.flatMap tl8
theorem rounds24l (lp : Lp U) (m : Int) (hm : m ≤ 1000000) : ∀ (ks2 : List ByteArray) (vs2 : List R33) (ks : List ByteArray) (vs : List R33) (t : ByteArray) (i : Int), 0 ≤ i → m = i + ks2.length → ks.length ≤ i → vs.length = ks.length → vs2.length = ks2.length → (∀ k ∈ ks2, k.size ≤ 64) → (∀ v ∈ vs2, Vok v) →
    tl8 t = allB (List.zipWith entB ks2 vs2) → fnLoop X Eg an24 lp Try.f24 0 (ks2.length + 1) (S24 true t m i (lC ks) (lR ks vs)) = some (.exit 0, Z24 true ⟨#[]⟩ (lC (ks ++ ks2)) (lR (ks ++ ks2) (vs ++ vs2)))
  | [], [], ks, vs, t, i, h0, h1, h2, h3, _, _, _, h7 => by
    have ht : t = ⟨#[]⟩ := tl8_inj h7
    rw [r24l _ _ _ _ _ _ _ (fun e => by subst e; exact List.eq_nil_of_length_eq_zero h3), decide_eq_false (by simp at h1; omega), List.append_nil, List.append_nil, ht]
    rfl
  | k :: ks2, v :: vs2, ks, vs, t, i, h0, h1, h2, h3, h4, h5, h6, h7 => by
    rw [List.length_cons] at h1
    obtain ⟨q, hq⟩ : ∃ q : ByteArray, tl8 q = allB (List.zipWith entB ks2 vs2) := ⟨⟨(allB (List.zipWith entB ks2 vs2)).toArray⟩, rfl⟩
    have e : tl8 t = tl8 (textB k) ++ (tl8 (valB v) ++ tl8 q) := by
      rw [h7, hq]
      show tl8 (entB k v) ++ _ = _
      rw [entB_valB, List.append_assoc]
      rfl
    have hk := h5 k (List.mem_cons_self ..)
    have hv := h6 v (List.mem_cons_self ..)
    have e1 : tl8 t = tl8 (textB k) ++ tl8 (valB v ++ q) := by rw [e, tl8_append]
    obtain ⟨t1, t2, _, _⟩ := tvT_of e1 (by omega)
    have e2 : tl8 (trT t) = tl8 (valB v) ++ tl8 q := by rw [t2, tl8_append]
    obtain ⟨v1, v2⟩ := vv_of hv e2
    have c1 : PTx ⟨t, 0⟩ 64 := ⟨rfl, k, _, e1, by omega, by decide⟩
    have c2 : PVv ⟨trT t, 0⟩ := ⟨rfl, v, q, hv, e2⟩
    show fnLoop X Eg an24 lp Try.f24 0 (ks2.length + 1).succ _ = _
    rw [r24l _ _ _ _ _ _ _ (fun e => by subst e; exact List.eq_nil_of_length_eq_zero h3), decide_eq_true (by omega), cond_true, if_pos trivial, if_pos c1, if_pos (by omega), if_pos c2, if_pos (by omega), wr (a := i + 1) (by omega) (by omega), t1, v1, v2]
    have := rounds24l lp m hm ks2 vs2 (ks ++ [k]) (vs ++ [v]) q (i + 1) (by omega) (by omega) (by rw [List.length_append, List.length_singleton]; omega) (by rw [List.length_append, List.length_append, h3]; rfl) (by simpa using h4) (fun k hk => h5 k (List.mem_cons_of_mem _ hk)) (fun v hv => h6 v (List.mem_cons_of_mem _ hv)) hq
    rw [List.append_assoc, List.append_assoc] at this
    exact this
theorem rounds24i (lp : Lp U) (m : Int) (hm : m ≤ 1000000) : ∀ (ks2 : List ByteArray) (ki2 : List Int) (ks : List ByteArray) (ki : List Int) (t : ByteArray) (i : Int), 0 ≤ i → m = i + ks2.length → ks.length ≤ i → ki.length ≤ i + 1 → ki2.length = ks2.length → (∀ k ∈ ks2, k.size ≤ 64) → (∀ n ∈ ki2, 0 ≤ n ∧ n ≤ 16383) →
    tl8 t = allB (List.zipWith lnkB ks2 ki2) → fnLoop X Eg an24 lp Try.f24 0 (ks2.length + 1) (S24 false t m i (iC ks) (iR ks ki)) = some (.exit 0, Z24 false ⟨#[]⟩ (iC (ks ++ ks2)) (iR (ks ++ ks2) (ki ++ ki2)))
  | [], [], ks, ki, t, i, h0, h1, h2, h3, _, _, _, h7 => by
    have ht : t = ⟨#[]⟩ := tl8_inj h7
    rw [r24i, decide_eq_false (by simp at h1; omega), List.append_nil, List.append_nil, ht]
    rfl
  | k :: ks2, n :: ki2, ks, ki, t, i, h0, h1, h2, h3, h4, h5, h6, h7 => by
    rw [List.length_cons] at h1
    obtain ⟨q, hq⟩ : ∃ q : ByteArray, tl8 q = allB (List.zipWith lnkB ks2 ki2) := ⟨⟨(allB (List.zipWith lnkB ks2 ki2)).toArray⟩, rfl⟩
    obtain ⟨g1, g2⟩ := h6 n (List.mem_cons_self ..)
    have e : tl8 t = tl8 (textB k) ++ (tl8 (numB (IntKind.u64.wrap n)) ++ tl8 q) := by
      rw [h7, hq]
      show tl8 (lnkB k n) ++ _ = _
      unfold lnkB
      rw [tl8_append, List.append_assoc]
      rfl
    have hk := h5 k (List.mem_cons_self ..)
    have e1 : tl8 t = tl8 (textB k) ++ tl8 (numB (IntKind.u64.wrap n) ++ q) := by rw [e, tl8_append]
    obtain ⟨t1, t2, _, _⟩ := tvT_of e1 (by omega)
    have e2 := numB_pos (n := n) g1 (by omega) q
    obtain ⟨v1, v2⟩ := nvN_of e2
    have c1 : PTx ⟨t, 0⟩ 64 := ⟨rfl, k, _, e1, by omega, by decide⟩
    have c2 : PNv ⟨trT t, 0⟩ 16383 := ⟨rfl, _, q, by rw [t2]; exact e2, by omega, by omega⟩
    show fnLoop X Eg an24 lp Try.f24 0 (ks2.length + 1).succ _ = _
    rw [r24i, decide_eq_true (by omega), cond_true, if_pos trivial, if_pos c1, if_pos (by omega), if_pos c2, if_pos (by omega), wr (a := i + 1) (by omega) (by omega), t1, t2, v1, v2, wr (a := ((n.toNat : Nat) : Int)) (by omega) (by omega), Int.toNat_of_nonneg g1]
    have := rounds24i lp m hm ks2 ki2 (ks ++ [k]) (ki ++ [n]) q (i + 1) (by omega) (by omega) (by rw [List.length_append, List.length_singleton]; omega) (by rw [List.length_append, List.length_singleton]; omega) (by simpa using h4) (fun k hk => h5 k (List.mem_cons_of_mem _ hk)) (fun v hv => h6 v (List.mem_cons_of_mem _ hv)) hq
    rw [List.append_assoc, List.append_assoc] at this
    exact this
/-! ### In order? -/
def S24b (L : Bool) (t : ByteArray) (i : Int) (c : List (TV U)) (r : List (TO U)) : TS U := mkS 85 [(4, .ref 0 0 0), (7, .ref 1 0 0), (10, .v (.int .i64 i))] ([.cells [.v (.bool false), nlv, nlv, nlv] false, .cells (.v (.bool L) :: c) false] ++ r) 0
def lC2 (ks : List ByteArray) : List (TV U) := match ks with
  | [] => [nlv, nlv, nlv]
  | _ :: _ => [.full 2, .full 3, nlv]
def iC2 (ks : List ByteArray) : List (TV U) := match ks with
  | [] => [nlv, nlv, .full 2]
  | _ :: _ => [.full 2, nlv, .full 3]
def Z24b (L : Bool) (c : List (TV U)) (r : List (TO U)) : TS U := mkS 85 [(4, .ref 0 0 0), (7, .ref 1 0 0)] ([.cells [.v (.bool false), nlv, nlv, nlv] false, .cells (.v (.bool L) :: c) false] ++ r) 0
theorem q24l1 (lp : Lp
  U) (N : Nat) (t : ByteArray) (i : Int) (x : ByteArray) (xs : List
  ByteArray) (vs : List
  R33) : (fnLoop X Eg an24 lp Try.f24 2 N.succ (S24b true t i (lC2 (x :: xs)) (lR (x :: xs) vs))) =
  bif decide (i < (↑(x :: xs).length : Int)) then
  if 0 ≤ IntKind.i64.wrap (i - 1) ∧ IntKind.i64.wrap (i - 1) < (↑(x :: xs).length : Int) then
    (x :: xs)[(IntKind.i64.wrap (i - 1)).toNat]?.bind fun (y : X.U.T C.str) =>
      if 0 ≤ i ∧ i < (↑(x :: xs).length : Int) then
        (x :: xs)[i.toNat]?.bind fun (y_1 : X.U.T C.str) =>
          bif !Op.bytesLess (ByteArray.toList y) (ByteArray.toList y_1) then
            some
              (Exit.ret,
                mkS 85 [(4, TV.ref 0 0 0), (5, TV.v (Value.int IntKind.i64 3)), (7, TV.ref 1 0 0)]
                  [TO.cells
                      [TV.v (Value.bool false), TV.v (Value.slice none 0 0), TV.v (Value.slice none 0 0),
                        TV.v (Value.slice none 0 0)]
                      false,
                    TO.cells [TV.v (Value.bool true), TV.full 2, TV.full 3, TV.v (Value.slice none 0 0)] false,
                    TO.row C.str (x :: xs) false, TO.row C.t33 vs false]
                  0)
          else
            fnLoop X Eg an24 lp Try.f24 2 N
              (mkS 85
                [(4, TV.ref 0 0 0), (7, TV.ref 1 0 0), (10, TV.v (Value.int IntKind.i64 (IntKind.i64.wrap (i + 1))))]
                [TO.cells
                    [TV.v (Value.bool false), TV.v (Value.slice none 0 0), TV.v (Value.slice none 0 0),
                      TV.v (Value.slice none 0 0)]
                    false,
                  TO.cells [TV.v (Value.bool true), TV.full 2, TV.full 3, TV.v (Value.slice none 0 0)] false,
                  TO.row C.str (x :: xs) false, TO.row C.t33 vs false]
                0)
      else none
  else none
else
  some
    (Exit.exit 2,
      mkS 85 [(4, TV.ref 0 0 0), (7, TV.ref 1 0 0)]
        [TO.cells
            [TV.v (Value.bool false), TV.v (Value.slice none 0 0), TV.v (Value.slice none 0 0),
              TV.v (Value.slice none 0 0)]
            false,
          TO.cells [TV.v (Value.bool true), TV.full 2, TV.full 3, TV.v (Value.slice none 0 0)] false,
          TO.row C.str (x :: xs) false, TO.row C.t33 vs false]
        0) := by kernel_rfl
theorem q24l0 (lp : Lp
  U) (N : Nat) (t : ByteArray) (i : Int) (vs : List
  R33) : (fnLoop X Eg an24 lp Try.f24 2 N.succ (S24b true t i (lC2 []) (lR [] vs))) =
  bif decide (i < 0) then none
else
  some
    (Exit.exit 2,
      mkS 85 [(4, TV.ref 0 0 0), (7, TV.ref 1 0 0)]
        [TO.cells
            [TV.v (Value.bool false), TV.v (Value.slice none 0 0), TV.v (Value.slice none 0 0),
              TV.v (Value.slice none 0 0)]
            false,
          TO.cells
            [TV.v (Value.bool true), TV.v (Value.slice none 0 0), TV.v (Value.slice none 0 0),
              TV.v (Value.slice none 0 0)]
            false]
        0) := by kernel_rfl
theorem q24i1 (lp : Lp
  U) (N : Nat) (t : ByteArray) (i : Int) (x : ByteArray) (xs : List
  ByteArray) (ki : List
  Int) : (fnLoop X Eg an24 lp Try.f24 2 N.succ (S24b false t i (iC2 (x :: xs)) (iR (x :: xs) ki))) =
  bif decide (i < (↑(x :: xs).length : Int)) then
  if 0 ≤ IntKind.i64.wrap (i - 1) ∧ IntKind.i64.wrap (i - 1) < (↑(x :: xs).length : Int) then
    (x :: xs)[(IntKind.i64.wrap (i - 1)).toNat]?.bind fun (y : X.U.T C.str) =>
      if 0 ≤ i ∧ i < (↑(x :: xs).length : Int) then
        (x :: xs)[i.toNat]?.bind fun (y_1 : X.U.T C.str) =>
          bif !Op.bytesLess (ByteArray.toList y) (ByteArray.toList y_1) then
            some
              (Exit.ret,
                mkS 85 [(4, TV.ref 0 0 0), (5, TV.v (Value.int IntKind.i64 3)), (7, TV.ref 1 0 0)]
                  [TO.cells
                      [TV.v (Value.bool false), TV.v (Value.slice none 0 0), TV.v (Value.slice none 0 0),
                        TV.v (Value.slice none 0 0)]
                      false,
                    TO.cells [TV.v (Value.bool false), TV.full 2, TV.v (Value.slice none 0 0), TV.full 3] false,
                    TO.row C.str (x :: xs) false, TO.row C.i64 ki false]
                  0)
          else
            fnLoop X Eg an24 lp Try.f24 2 N
              (mkS 85
                [(4, TV.ref 0 0 0), (7, TV.ref 1 0 0), (10, TV.v (Value.int IntKind.i64 (IntKind.i64.wrap (i + 1))))]
                [TO.cells
                    [TV.v (Value.bool false), TV.v (Value.slice none 0 0), TV.v (Value.slice none 0 0),
                      TV.v (Value.slice none 0 0)]
                    false,
                  TO.cells [TV.v (Value.bool false), TV.full 2, TV.v (Value.slice none 0 0), TV.full 3] false,
                  TO.row C.str (x :: xs) false, TO.row C.i64 ki false]
                0)
      else none
  else none
else
  some
    (Exit.exit 2,
      mkS 85 [(4, TV.ref 0 0 0), (7, TV.ref 1 0 0)]
        [TO.cells
            [TV.v (Value.bool false), TV.v (Value.slice none 0 0), TV.v (Value.slice none 0 0),
              TV.v (Value.slice none 0 0)]
            false,
          TO.cells [TV.v (Value.bool false), TV.full 2, TV.v (Value.slice none 0 0), TV.full 3] false,
          TO.row C.str (x :: xs) false, TO.row C.i64 ki false]
        0) := by kernel_rfl
theorem q24i0 (lp : Lp
  U) (N : Nat) (t : ByteArray) (i : Int) (ki : List
  Int) : (fnLoop X Eg an24 lp Try.f24 2 N.succ (S24b false t i (iC2 []) (iR [] ki))) =
  bif decide (i < 0) then none
else
  some
    (Exit.exit 2,
      mkS 85 [(4, TV.ref 0 0 0), (7, TV.ref 1 0 0)]
        [TO.cells
            [TV.v (Value.bool false), TV.v (Value.slice none 0 0), TV.v (Value.slice none 0 0),
              TV.v (Value.slice none 0 0)]
            false,
          TO.cells [TV.v (Value.bool false), TV.v (Value.slice none 0 0), TV.v (Value.slice none 0 0), TV.full 2] false,
          TO.row C.i64 ki false]
        0) := by kernel_rfl
theorem srt_at {ks : List ByteArray} (h : Srt ks) {i : Int} (h0 : 1 ≤ i) (h1 : i < (ks.length : Int)) : ∃ y, ks[(i - 1).toNat]? = some y ∧ ∃ z, ks[i.toNat]? = some z ∧ Op.bytesLess y.toList z.toList = true := by
  have a : (i - 1).toNat < ks.length := by omega
  have b : i.toNat < ks.length := by omega
  refine ⟨_, List.getElem?_eq_getElem a, _, List.getElem?_eq_getElem b, ?_⟩
  exact List.pairwise_iff_getElem.1 h _ _ a b (by omega)
theorem rounds24a (lp : Lp U) (t : ByteArray) (ks : List ByteArray) (vs : List R33) (hs : Srt ks) (hl : ks.length ≤ 1000000) : ∀ (N : Nat) (i : Int), 1 ≤ i → (ks.length : Int) ≤ i + N → fnLoop X Eg an24 lp Try.f24 2 (N + 1) (S24b true t i (lC2 ks) (lR ks vs)) = some (.exit 2, Z24b true (lC2 ks) (lR ks vs)) := by
  cases ks with
  | nil =>
    intro N i h0 h1
    show fnLoop X Eg an24 lp Try.f24 2 N.succ _ = _
    rw [q24l0]
    first | rfl | (rw [decide_eq_false (by omega)]; rfl)
  | cons x xs =>
    intro N
    induction N with
    | zero =>
      intro i h0 h1
      show fnLoop X Eg an24 lp Try.f24 2 (Nat.succ 0) _ = _
      rw [q24l1, decide_eq_false (by omega)]
      rfl
    | succ N ih =>
      intro i h0 h1
      show fnLoop X Eg an24 lp Try.f24 2 (N + 1).succ _ = _
      rw [q24l1]
      by_cases hi : i < ((x :: xs).length : Int)
      · obtain ⟨y, hy, hlt⟩ := srt_at hs h0 hi
        obtain ⟨z, hz, hyz⟩ := hlt
        rw [decide_eq_true hi, cond_true, wr (a := i - 1) (by omega) (by omega), if_pos (by omega), hy, Option.bind_some, if_pos (by omega), hz, Option.bind_some, wr (a := i + 1) (by omega) (by omega)]
        rw [hyz]
        exact ih (i + 1) (by omega) (by omega)
      · rw [decide_eq_false hi]
        rfl
theorem rounds24b (lp : Lp U) (t : ByteArray) (ks : List ByteArray) (ki : List Int) (hs : Srt ks) (hl : ks.length ≤ 1000000) : ∀ (N : Nat) (i : Int), 1 ≤ i → (ks.length : Int) ≤ i + N → fnLoop X Eg an24 lp Try.f24 2 (N + 1) (S24b false t i (iC2 ks) (iR ks ki)) = some (.exit 2, Z24b false (iC2 ks) (iR ks ki)) := by
  cases ks with
  | nil =>
    intro N i h0 h1
    show fnLoop X Eg an24 lp Try.f24 2 N.succ _ = _
    rw [q24i0]
    first | rfl | (rw [decide_eq_false (by omega)]; rfl)
  | cons x xs =>
    intro N
    induction N with
    | zero =>
      intro i h0 h1
      show fnLoop X Eg an24 lp Try.f24 2 (Nat.succ 0) _ = _
      rw [q24i1, decide_eq_false (by omega)]
      rfl
    | succ N ih =>
      intro i h0 h1
      show fnLoop X Eg an24 lp Try.f24 2 (N + 1).succ _ = _
      rw [q24i1]
      by_cases hi : i < ((x :: xs).length : Int)
      · obtain ⟨y, hy, hlt⟩ := srt_at hs h0 hi
        obtain ⟨z, hz, hyz⟩ := hlt
        rw [decide_eq_true hi, cond_true, wr (a := i - 1) (by omega) (by omega), if_pos (by omega), hy, Option.bind_some, if_pos (by omega), hz, Option.bind_some, wr (a := i + 1) (by omega) (by omega)]
        rw [hyz]
        exact ih (i + 1) (by omega) (by omega)
      · rw [decide_eq_false hi]
        rfl
end Go.Proofs.Ytmcflglkfgnbbaa.Nd

