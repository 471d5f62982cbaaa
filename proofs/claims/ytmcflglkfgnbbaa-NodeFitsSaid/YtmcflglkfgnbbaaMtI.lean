/- Texts of this claim, put together: part 9. -/
import Derived.Test.YtmcflglkfgnbbaaMtH
/- Nodes as bytes: what stands behind a key. -/
namespace Go.Proofs.Ytmcflglkfgnbbaa.Nd
open Go Go.RowKit Go.Proofs.Ytmcflglkfgnbbaa.Eng
set_option linter.unusedVariables false
set_option linter.unusedSimpArgs false
set_option maxRecDepth 20000
def Et : FuncId → Option (Spc U)
  | 46 => some sNum
  | 78 => some sText
  | _ => none
theorem Et_ok : ∀ f S, Et f = some S → SpecOk Try.prog f S := fun f S h => by
  unfold Et at h
  split at h
  · cases h; exact sNum_ok
  · cases h; exact sText_ok
  · cases h
def Eu : FuncId → Option (Spc U)
  | 58 => some sNumR
  | 80 => some sTextR
  | _ => none
theorem Eu_ok : ∀ f S, Eu f = some S → SpecOk Try.prog f S := fun f S h => by
  unfold Eu at h
  split at h
  · cases h; exact sNumR_ok
  · cases h; exact sTextR_ok
  · cases h
def R33.vV (v : R33) : TV U := .agg [.v (.string v.Data), .v (.int .i64 v.Page), .v (.int .i64 v.Len)]
theorem e47 (k : ByteArray) (v : R33) : (evFn X Et an0 lp0 Try.f47 [] [TV.v (Value.string k), v.vV]
  fun (o : List (TO X.U)) (v : TV X.U) => some (o, v)) =
  bif decide (0 ≤ v.Page) then
  if Sz k.size then
    if (textB k).size + (⟨#[1]⟩ : ByteArray).size ≤ 9223372036854775807 then
      if U64 (IntKind.u64.wrap v.Page) then
        if (textB k ++ (⟨#[1]⟩ : ByteArray)).size + (numB (IntKind.u64.wrap v.Page)).size ≤ 9223372036854775807 then
          if U64 (IntKind.u64.wrap v.Len) then
            if
                (textB k ++ (⟨#[1]⟩ : ByteArray) ++ numB (IntKind.u64.wrap v.Page)).size +
                    (numB (IntKind.u64.wrap v.Len)).size ≤
                  9223372036854775807 then
              some
                ([],
                  TV.v
                    (Value.string
                      (textB k ++ (⟨#[1]⟩ : ByteArray) ++ numB (IntKind.u64.wrap v.Page) ++ numB (IntKind.u64.wrap v.Len))))
            else none
          else none
        else none
      else none
    else none
  else none
else
  if Sz k.size then
    if (textB k).size + (⟨#[0]⟩ : ByteArray).size ≤ 9223372036854775807 then
      if Sz v.Data.size then
        if (textB k ++ (⟨#[0]⟩ : ByteArray)).size + (textB v.Data).size ≤ 9223372036854775807 then
          some ([], TV.v (Value.string (textB k ++ (⟨#[0]⟩ : ByteArray) ++ textB v.Data)))
        else none
      else none
    else none
  else none := by kernel_rfl
theorem e48 (k : ByteArray) (n : Int) : (evFn X Et an0 lp0 Try.f48 []
  [TV.v (Value.string k), TV.v (Value.int IntKind.i64 n)] fun (o : List (TO X.U)) (v : TV X.U) => some (o, v)) =
  if Sz k.size then
  if U64 (IntKind.u64.wrap n) then
    if (textB k).size + (numB (IntKind.u64.wrap n)).size ≤ 9223372036854775807 then
      some ([], TV.v (Value.string (textB k ++ numB (IntKind.u64.wrap n))))
    else none
  else none
else none := by kernel_rfl
theorem e59 (n : N4) (i : Int) : (evFn X Eu an0 lp0 Try.f59 [] [n.tv, TV.v (Value.int IntKind.i64 i)]
  fun (o : List (TO X.U)) (v : TV X.U) => some (o, v)) =
  (getI n.K i).bind fun (z : X.U.T C.str) =>
  if Sz (ByteArray.size z) then
    bif !n.L then
      (getI n.I (IntKind.i64.wrap (i + 1))).bind fun (z_1 : X.U.T C.i64) =>
        if U64 (IntKind.u64.wrap z_1) then
          if (textB z).size + (numB (IntKind.u64.wrap z_1)).size ≤ 9223372036854775807 then
            some ([], TV.v (Value.string (textB z ++ numB (IntKind.u64.wrap z_1))))
          else none
        else none
    else
      (getI n.V i).bind fun (z_1 : X.U.T C.t83) =>
        bif decide (0 ≤ z_1.Page) then
          if (textB z).size + (⟨#[1]⟩ : ByteArray).size ≤ 9223372036854775807 then
            (getI n.V i).bind fun (z_2 : X.U.T C.t83) =>
              if U64 (IntKind.u64.wrap z_2.Page) then
                if
                    (textB z ++ (⟨#[1]⟩ : ByteArray)).size + (numB (IntKind.u64.wrap z_2.Page)).size ≤
                      9223372036854775807 then
                  (getI n.V i).bind fun (z_3 : X.U.T C.t83) =>
                    if U64 (IntKind.u64.wrap z_3.Len) then
                      if
                          (textB z ++ (⟨#[1]⟩ : ByteArray) ++ numB (IntKind.u64.wrap z_2.Page)).size +
                              (numB (IntKind.u64.wrap z_3.Len)).size ≤
                            9223372036854775807 then
                        some
                          ([],
                            TV.v
                              (Value.string
                                (textB z ++ (⟨#[1]⟩ : ByteArray) ++ numB (IntKind.u64.wrap z_2.Page) ++
                                  numB (IntKind.u64.wrap z_3.Len))))
                      else none
                    else none
                else none
              else none
          else none
        else
          if (textB z).size + (⟨#[0]⟩ : ByteArray).size ≤ 9223372036854775807 then
            (getI n.V i).bind fun (z_2 : X.U.T C.t83) =>
              if Sz z_2.Data.size then
                if (textB z ++ (⟨#[0]⟩ : ByteArray)).size + (textB z_2.Data).size ≤ 9223372036854775807 then
                  some ([], TV.v (Value.string (textB z ++ (⟨#[0]⟩ : ByteArray) ++ textB z_2.Data)))
                else none
              else none
          else none
  else none := by kernel_rfl
theorem app_len (a b : ByteArray) : (a ++ b).size = a.size + b.size := app_size a b
theorem textB_size {s : ByteArray} (h : Sz s.size) : (textB s).size ≤ 100000010 := by
  have := numB_size (u64_wrap (s.size : Int))
  unfold Sz at h
  unfold textB
  rw [app_size]
  omega
/-- The bytes of what a leaf has at a place; of a page behind a key. -/
def entB (k : ByteArray) (v : R33) : ByteArray := cond (decide (0 ≤ v.Page)) (textB k ++ ⟨#[1]⟩ ++ numB (IntKind.u64.wrap v.Page) ++ numB (IntKind.u64.wrap v.Len)) (textB k ++ ⟨#[0]⟩ ++ textB v.Data)
def lnkB (k : ByteArray) (n : Int) : ByteArray := textB k ++ numB (IntKind.u64.wrap n)
theorem sz1 (b : UInt8) : (ByteArray.mk #[b]).size = 1 := rfl
theorem entB_size {k : ByteArray} {v : R33} (h : Sz k.size) (h2 : Sz v.Data.size) : (entB k v).size ≤ 300000000 := by
  have h3 := textB_size h
  have h4 := textB_size h2
  have h5 := numB_size (u64_wrap v.Page)
  have h6 := numB_size (u64_wrap v.Len)
  unfold entB
  cases decide (0 ≤ v.Page) <;> simp only [cond_true, cond_false, app_size, sz1] <;> omega
theorem lnkB_size {k : ByteArray} {n : Int} (h : Sz k.size) : (lnkB k n).size ≤ 300000000 := by
  have h3 := textB_size h
  have h5 := numB_size (u64_wrap n)
  unfold lnkB
  rw [app_size]
  omega
def PEnt (k d : Nat) : Prop := Sz k ∧ Sz d
instance (k d : Nat) : Decidable (PEnt k d) := by unfold PEnt; infer_instance
def dEnt (objs : List (TO U)) (args : List (TV U)) : Option (ByteArray × R33) := match objs, args with
  | [], [a0, a1] =>
    match a0 with
    | .v (.string k) =>
      match a1 with
      | .agg [q0, q1, q2] =>
        match q0 with
        | .v (.string v_Data) =>
          match q1 with
          | .v (.int .i64 v_Page) =>
            match q2 with
            | .v (.int .i64 v_Len) =>
              some (k, (⟨v_Data, v_Page, v_Len⟩ : R33))
            | _ => none
          | _ => none
        | _ => none
      | _ => none
    | _ => none
  | _, _ => none
theorem dEnt_ok {objs : List (TO U)} {args : List (TV U)} {k : ByteArray} {v : R33} (h : dEnt objs args = some (k, v)) : objs = [] ∧ args = [.v (.string k), v.vV] := by
  unfold dEnt at h
  repeat' split at h
  all_goals first | (cases h; done) | (cases h; exact ⟨rfl, rfl⟩)
def sEnt : Spc U := .of dEnt (fun (k, v) => PEnt k.size v.Data.size) (fun _ => []) fun (k, v) => .v (.string (entB k v))
theorem sEnt_ok : SpecOk Try.prog 47 sEnt := by
  refine fn_ok X_ok mixed Et_ok an0 lp0 Try.func47 (by kernel_rfl) (by kernel_rfl) (lp0_ok (by kernel_rfl)) fun objs args x hx hp => ?_
  obtain ⟨k, v⟩ := x
  obtain ⟨rfl, rfl⟩ := dEnt_ok hx
  obtain ⟨h1, h2⟩ := hp
  refine (e47 k v).trans ?_
  have h3 := textB_size h1
  have h4 := textB_size h2
  have h5 := numB_size (u64_wrap v.Page)
  have h6 := numB_size (u64_wrap v.Len)
  rw [if_pos h1, if_pos h2, if_pos (u64_wrap _), if_pos (u64_wrap _)]
  unfold entB
  simp only [app_size, sz1]
  cases decide (0 ≤ v.Page)
  · simp only [cond_false]
    rw [if_pos h1, if_pos (show (textB k).size + 1 ≤ 9223372036854775807 by omega), if_pos (show (textB k).size + 1 + (textB v.Data).size ≤ 9223372036854775807 by omega)]
  · simp only [cond_true]
    rw [if_pos (by omega), if_pos (by omega), if_pos (by omega)]
def dLnk (objs : List (TO U)) (args : List (TV U)) : Option (ByteArray × Int) := match objs, args with
  | [], [a0, a1] =>
    match a0 with
    | .v (.string k) =>
      match a1 with
      | .v (.int .i64 n) =>
        some (k, n)
      | _ => none
    | _ => none
  | _, _ => none
theorem dLnk_ok {objs : List (TO U)} {args : List (TV U)} {k : ByteArray} {n : Int} (h : dLnk objs args = some (k, n)) : objs = [] ∧ args = [.v (.string k), .v (.int .i64 n)] := by
  unfold dLnk at h
  repeat' split at h
  all_goals first | (cases h; done) | (cases h; exact ⟨rfl, rfl⟩)
def sLnk : Spc U := .of dLnk (fun (k, n) => Sz k.size) (fun _ => []) fun (k, n) => .v (.string (lnkB k n))
theorem sLnk_ok : SpecOk Try.prog 48 sLnk := by
  refine fn_ok X_ok mixed Et_ok an0 lp0 Try.func48 (by kernel_rfl) (by kernel_rfl) (lp0_ok (by kernel_rfl)) fun objs args x hx hp => ?_
  obtain ⟨k, n⟩ := x
  obtain ⟨rfl, rfl⟩ := dLnk_ok hx
  refine (e48 k n).trans ?_
  have h3 := textB_size hp
  have h5 := numB_size (u64_wrap n)
  rw [if_pos hp, if_pos (u64_wrap _), if_pos (by omega)]
  rfl
/-! ### Nodes -/
def cvB (v : R83) : R33 := ⟨v.Data, v.Page, v.Len⟩
theorem cvB_cvR (v : R33) : cvB (cvR v) = v := rfl
/-- What a node of so much is. -/
def Pn (L : Bool) (ks : List ByteArray) (vs : List R33) (ki : List Int) : Prop := ks.length ≤ 1000000 ∧ (∀ k ∈ ks, Sz k.size) ∧ (∀ v ∈ vs, Sz v.Data.size) ∧ (L = true → vs.length = ks.length) ∧ (L = false → ki.length = ks.length + 1)
noncomputable instance (L : Bool) (ks : List ByteArray) (vs : List R33) (ki : List Int) : Decidable (Pn L ks vs ki) := Classical.propDecidable _
def pcs (L : Bool) (ks : List ByteArray) (vs : List R33) (ki : List Int) : List ByteArray := cond L (List.zipWith entB ks vs) (List.zipWith lnkB ks (ki.drop 1))
def hdB (L : Bool) (ks : List ByteArray) (ki : List Int) : ByteArray := cond L (numB (IntKind.u64.wrap (ks.length : Int))) (numB (IntKind.u64.wrap (ks.length : Int)) ++ numB (IntKind.u64.wrap (ki.headD 0)))
def putB (L : Bool) (ks : List ByteArray) (vs : List R33) (ki : List Int) : ByteArray := (pcs L ks vs ki).foldl (· ++ ·) (hdB L ks ki)
theorem pcs_len {L : Bool} {ks : List ByteArray} {vs : List R33} {ki : List Int} (h : Pn L ks vs ki) : (pcs L ks vs ki).length = ks.length := by
  obtain ⟨_, _, _, h1, h2⟩ := h
  unfold pcs
  cases L
  · simp only [cond_false, List.length_zipWith, List.length_drop, h2 rfl]; omega
  · simp only [cond_true, List.length_zipWith, h1 rfl]; omega
theorem hdB_size (L : Bool) (ks : List ByteArray) (ki : List Int) : (hdB L ks ki).size ≤ 20 := by
  have h1 := numB_size (u64_wrap (ks.length : Int))
  have h2 := numB_size (u64_wrap (ki.headD 0))
  unfold hdB
  cases L <;> simp only [cond_true, cond_false, app_size] <;> omega
/-- A piece of a leaf; of an inner node. -/
theorem pcs_leaf {ks : List ByteArray} {vs : List R33} {ki : List Int} (h : Pn true ks vs ki) {v : Int} {z : ByteArray} (hz : getI (pcs true ks vs ki) v = some z) :
    ∃ k w, getI ks v = some k ∧ getI vs v = some w ∧ z = entB k w ∧ PEnt k.size w.Data.size ∧ z.size ≤ 300000000 := by
  unfold getI at hz ⊢
  split at hz
  · rename_i h0
    rw [if_pos h0, if_pos h0]
    unfold pcs at hz
    rw [cond_true, List.getElem?_zipWith_eq_some] at hz
    obtain ⟨k, w, h1, h2, rfl⟩ := hz
    have h3 := h.2.1 k (List.mem_of_getElem? h1)
    have h4 := h.2.2.1 w (List.mem_of_getElem? h2)
    exact ⟨k, w, h1, h2, rfl, ⟨h3, h4⟩, entB_size h3 h4⟩
  · cases hz
theorem pcs_inner {ks : List ByteArray} {vs : List R33} {ki : List Int} (h : Pn false ks vs ki) {v : Int} {z : ByteArray} (hz : getI (pcs false ks vs ki) v = some z) :
    ∃ k n, getI ks v = some k ∧ getI ki (v + 1) = some n ∧ z = lnkB k n ∧ Sz k.size ∧ z.size ≤ 300000000 := by
  unfold getI at hz ⊢
  split at hz
  · rename_i h0
    rw [if_pos h0, if_pos (by omega)]
    unfold pcs at hz
    rw [cond_false, List.getElem?_zipWith_eq_some] at hz
    obtain ⟨k, w, h1, h2, rfl⟩ := hz
    have h3 := h.2.1 k (List.mem_of_getElem? h1)
    rw [List.getElem?_drop, show 1 + v.toNat = (v + 1).toNat by omega] at h2
    exact ⟨k, w, h1, h2, rfl, h3, lnkB_size h3⟩
  · cases hz
end Go.Proofs.Ytmcflglkfgnbbaa.Nd

/- Nodes as bytes: Put. -/
namespace Go.Proofs.Ytmcflglkfgnbbaa.Nd
open Go Go.RowKit Go.Proofs.Ytmcflglkfgnbbaa.Eng
set_option linter.unusedVariables false
set_option linter.unusedSimpArgs false
set_option maxRecDepth 20000
def Ep : FuncId → Option (Spc U)
  | 46 => some sNum
  | 47 => some sEnt
  | 48 => some sLnk
  | _ => none
theorem Ep_ok : ∀ f S, Ep f = some S → SpecOk Try.prog f S := fun f S h => by
  unfold Ep at h
  split at h
  · cases h; exact sNum_ok
  · cases h; exact sEnt_ok
  · cases h; exact sLnk_ok
  · cases h
def an19 : Ann := ⟨fun | 0 => 458762 | 2 => 61572651155466 | _ => 0, fun | 0 => 12 | 2 => 12 | _ => 0, fun _ => [], false⟩
def an25 : Ann := ⟨fun | 0 => 26 | _ => 0, fun | 0 => 12 | _ => 0, fun _ => [], false⟩
def g19_S0 (L : Bool) (ks : List
  ByteArray) (vs : List
  R33) (ki : List
  Int) (v0 : ByteArray) (v3 : Int) : TS U := mkS 62
  [(1, TV.ref 0 0 0), (3, TV.v (Value.string v0)), (16, TV.lst C.str ks),
    (17, TV.v (Value.int IntKind.i64 (↑ks.length : Int))), (18, TV.v (Value.int IntKind.i64 v3))]
  [TO.cells [TV.v (Value.bool L), TV.lst C.str ks, TV.lst C.t33 vs, TV.lst C.i64 ki] false] 0
theorem g19_e0 (lp : Lp
  U) (L : Bool) (ks : List
  ByteArray) (vs : List
  R33) (ki : List
  Int) (N : Nat) (v0 : ByteArray) (v3 : Int) : fnLoop X Ep an19 lp Try.f19 0 N.succ (g19_S0 L ks vs ki v0 v3) =
  bif decide (v3 < (↑ks.length : Int)) then
  (getI ks v3).bind fun (z : X.U.T C.str) =>
    (getI vs v3).bind fun (z_1 : X.U.T C.t33) =>
      if PEnt (ByteArray.size z) z_1.Data.size then
        if v0.size + (entB z z_1).size ≤ 9223372036854775807 then
          fnLoop X Ep an19 lp Try.f19 0 N (g19_S0 L ks vs ki (v0 ++ entB z z_1) (IntKind.i64.wrap (v3 + 1)))
        else none
      else none
else some (Exit.exit 0, mkS 62 [(3, TV.v (Value.string v0))] [] 0) := by kernel_rfl
def g19_S2 (L : Bool) (ks : List
  ByteArray) (vs : List
  R33) (ki : List
  Int) (v0 : ByteArray) (v3 : Int) : TS U := mkS 62
  [(1, TV.ref 0 0 0), (3, TV.v (Value.string v0)), (43, TV.lst C.str ks),
    (44, TV.v (Value.int IntKind.i64 (↑ks.length : Int))), (45, TV.v (Value.int IntKind.i64 v3))]
  [TO.cells [TV.v (Value.bool L), TV.lst C.str ks, TV.lst C.t33 vs, TV.lst C.i64 ki] false] 0
theorem g19_e2 (lp : Lp
  U) (L : Bool) (ks : List
  ByteArray) (vs : List
  R33) (ki : List
  Int) (N : Nat) (v0 : ByteArray) (v3 : Int) : fnLoop X Ep an19 lp Try.f19 2 N.succ (g19_S2 L ks vs ki v0 v3) =
  bif decide (v3 < (↑ks.length : Int)) then
  (getI ks v3).bind fun (z : X.U.T C.str) =>
    (getI ki (IntKind.i64.wrap (v3 + 1))).bind fun (z_1 : X.U.T C.i64) =>
      if Sz (ByteArray.size z) then
        if v0.size + (lnkB z z_1).size ≤ 9223372036854775807 then
          fnLoop X Ep an19 lp Try.f19 2 N (g19_S2 L ks vs ki (v0 ++ lnkB z z_1) (IntKind.i64.wrap (v3 + 1)))
        else none
      else none
else some (Exit.exit 2, mkS 62 [(3, TV.v (Value.string v0))] [] 0) := by kernel_rfl
theorem fold_rounds {α β T B : Type} {fnl : Nat → T → Option B} (S : β → Int → T) (Z : β → B) (l : List α) (I : β → Int → Prop) (step : β → α → β)
    (hin : ∀ (N : Nat) (g : β) (v : Int) (z : α), I g v → 0 ≤ v → v < (l.length : Int) → getI l v = some z → fnl (N + 1) (S g v) = fnl N (S (step g z) (v + 1)) ∧ I (step g z) (v + 1))
    (hout : ∀ (N : Nat) (g : β) (v : Int), I g v → ¬ v < (l.length : Int) → fnl (N + 1) (S g v) = some (Z g)) :
    ∀ (N : Nat) (g : β) (v : Int), I g v → 0 ≤ v → (l.length : Int) ≤ v + N → fnl (N + 1) (S g v) = some (Z ((l.drop v.toNat).foldl step g)) := by
  intro N
  induction N with
  | zero =>
    intro g v hI h0 h1
    rw [hout 0 g v hI (by omega), List.drop_eq_nil_of_le (by omega)]
    rfl
  | succ N ih =>
    intro g v hI h0 h1
    by_cases hv : v < (l.length : Int)
    · obtain ⟨x, hx, hx2⟩ := getE (l := l) h0 hv
      obtain ⟨h2, h3⟩ := hin (N + 1) g v x hI h0 hv hx
      have ea : l.drop v.toNat = x :: l.drop (v.toNat + 1) := by
        rw [List.drop_eq_getElem_cons (by omega)]
        rw [List.getElem?_eq_getElem (by omega)] at hx2
        rw [Option.some.inj hx2]
      rw [h2, ih (step g x) (v + 1) h3 (by omega) (by omega), ea, show (v + 1).toNat = v.toNat + 1 by omega]
      rfl
    · rw [hout (N + 1) g v hI hv, List.drop_eq_nil_of_le (by omega)]
      rfl
/-- What stands in a node. -/
structure N3 where
  L : Bool
  K : List ByteArray
  V : List R33
  I : List Int
def N3.ob (n : N3) : TO U := .cells [.v (.bool n.L), .lst .str n.K, .lst .t33 n.V, .lst .i64 n.I] false
def N3.tv (n : N3) : TV U := .agg [.v (.bool n.L), .lst .str n.K, .lst .t33 n.V, .lst .i64 n.I]
def N3.Ok (n : N3) : Prop := Pn n.L n.K n.V n.I
noncomputable instance (n : N3) : Decidable n.Ok := Classical.propDecidable _
def N3.put (n : N3) : ByteArray := putB n.L n.K n.V n.I
def N3.pcs (n : N3) : List ByteArray := Nd.pcs n.L n.K n.V n.I
def N3.hd (n : N3) : ByteArray := hdB n.L n.K n.I
theorem N3.Ok.pcs {n : N3} (h : n.Ok) : n.pcs.length = n.K.length := pcs_len h
theorem N3.Ok.len {n : N3} (h : n.Ok) : n.K.length ≤ 1000000 := h.1
def Z19 (b : ByteArray) : TS U := mkS 62 [(3, .v (.string b))] [] 0
theorem rounds19a (lp : Lp U) (n : N3) (h : n.Ok) (hL : n.L = true) : fnLoop X Ep an19 lp Try.f19 0 (n.pcs.length + 1) (g19_S0 n.L n.K n.V n.I n.hd 0) = some (.exit 0, Z19 n.put) := by
  have hl := h.pcs
  have hk := h.len
  obtain ⟨L, K, V, I⟩ := n
  obtain rfl : L = true := hL
  dsimp only at hl hk ⊢
  refine fold_rounds (fnl := fnLoop X Ep an19 lp Try.f19 0) (fun b v => g19_S0 true K V I b v) (fun b => ((.exit 0, Z19 b) : Exit × TS U)) (pcs true K V I) (fun b v => (b.size : Int) ≤ 20 + 300000000 * v) (· ++ ·) (fun N b v z hI h0 h1 hz => ?_) (fun N b v hI h1 => ?_) _ _ 0 (by
      have := hdB_size true K I
      show ((hdB true K I).size : Int) ≤ _
      omega) (Int.le_refl _) (by show ((pcs true K V I).length : Int) ≤ 0 + ((pcs true K V I).length : Nat); omega)
  · have hl : (pcs true K V I).length = K.length := hl
    obtain ⟨k, w, e1, e2, rfl, e3, e4⟩ := pcs_leaf h hz
    refine ⟨?_, by rw [app_size]; omega⟩
    rw [g19_e0, decide_eq_true (by omega), e1, e2]
    simp only [cond_true, Option.bind_some]
    rw [if_pos e3, if_pos (by omega), wr (by omega) (by omega)]
  · have hl : (pcs true K V I).length = K.length := hl
    rw [g19_e0, decide_eq_false (by omega)]
    rfl
theorem rounds19b (lp : Lp U) (n : N3) (h : n.Ok) (hL : n.L = false) : fnLoop X Ep an19 lp Try.f19 2 (n.pcs.length + 1) (g19_S2 n.L n.K n.V n.I n.hd 0) = some (.exit 2, Z19 n.put) := by
  have hl := h.pcs
  have hk := h.len
  obtain ⟨L, K, V, I⟩ := n
  obtain rfl : L = false := hL
  dsimp only at hl hk ⊢
  refine fold_rounds (fnl := fnLoop X Ep an19 lp Try.f19 2) (fun b v => g19_S2 false K V I b v) (fun b => ((.exit 2, Z19 b) : Exit × TS U)) (pcs false K V I) (fun b v => (b.size : Int) ≤ 20 + 300000000 * v) (· ++ ·) (fun N b v z hI h0 h1 hz => ?_) (fun N b v hI h1 => ?_) _ _ 0 (by
      have := hdB_size false K I
      show ((hdB false K I).size : Int) ≤ _
      omega) (Int.le_refl _) (by show ((pcs false K V I).length : Int) ≤ 0 + ((pcs false K V I).length : Nat); omega)
  · have hl : (pcs false K V I).length = K.length := hl
    obtain ⟨k, w, e1, e2, rfl, e3, e4⟩ := pcs_inner h hz
    refine ⟨?_, by rw [app_size]; omega⟩
    rw [g19_e2, decide_eq_true (by omega), e1]
    simp only [cond_true, Option.bind_some]
    rw [wr (a := v + 1) (by omega) (by omega), e2]
    simp only [Option.bind_some]
    rw [if_pos e3, if_pos (by omega)]
  · have hl : (pcs false K V I).length = K.length := hl
    rw [g19_e2, decide_eq_false (by omega)]
    rfl
def dl19a (s : TS U) : Option (N3 × ByteArray × List ByteArray × Int × Int) := match told s 62 [1, 3, 16, 17, 18] 0, s.objs with
  | some [a0, a1, a2, a3, a4], [o0] =>
    match o0 with
    | .cells [q0, q1, q2, q3] false =>
      match q0 with
      | .v (.bool n_L) =>
        match q1 with
        | .lst .str n_K =>
          match q2 with
          | .lst .t33 n_V =>
            match q3 with
            | .lst .i64 n_I =>
              match a0 with
              | .ref 0 0 0 =>
                match a1 with
                | .v (.string b) =>
                  match a2 with
                  | .lst .str ks =>
                    match a3 with
                    | .v (.int .i64 c) =>
                      match a4 with
                      | .v (.int .i64 v) =>
                        some ((⟨n_L, n_K, n_V, n_I⟩ : N3), b, ks, c, v)
                      | _ => none
                    | _ => none
                  | _ => none
                | _ => none
              | _ => none
            | _ => none
          | _ => none
        | _ => none
      | _ => none
    | _ => none
  | _, _ => none
theorem dl19a_ok {s : TS U} {n : N3} {b : ByteArray} {ks : List ByteArray} {c : Int} {v : Int} (h : dl19a s = some (n, b, ks, c, v)) : s = mkS (U := U) 62 ([1, 3, 16, 17, 18].zip ([.ref 0 0 0, .v (.string b), .lst .str ks, .v (.int .i64 c), .v (.int .i64 v)] : List (TV U))) ([n.ob] : List (TO U)) 0 := by
  unfold dl19a at h
  split at h <;> try (cases h; done)
  rename_i ht ho
  have hs := told_ok ht
  rw [ho] at hs
  repeat' split at h
  all_goals first | (cases h; done) | (cases h; exact hs)
def dl19b (s : TS U) : Option (N3 × ByteArray × List ByteArray × Int × Int) := match told s 62 [1, 3, 43, 44, 45] 0, s.objs with
  | some [a0, a1, a2, a3, a4], [o0] =>
    match o0 with
    | .cells [q0, q1, q2, q3] false =>
      match q0 with
      | .v (.bool n_L) =>
        match q1 with
        | .lst .str n_K =>
          match q2 with
          | .lst .t33 n_V =>
            match q3 with
            | .lst .i64 n_I =>
              match a0 with
              | .ref 0 0 0 =>
                match a1 with
                | .v (.string b) =>
                  match a2 with
                  | .lst .str ks =>
                    match a3 with
                    | .v (.int .i64 c) =>
                      match a4 with
                      | .v (.int .i64 v) =>
                        some ((⟨n_L, n_K, n_V, n_I⟩ : N3), b, ks, c, v)
                      | _ => none
                    | _ => none
                  | _ => none
                | _ => none
              | _ => none
            | _ => none
          | _ => none
        | _ => none
      | _ => none
    | _ => none
  | _, _ => none
theorem dl19b_ok {s : TS U} {n : N3} {b : ByteArray} {ks : List ByteArray} {c : Int} {v : Int} (h : dl19b s = some (n, b, ks, c, v)) : s = mkS (U := U) 62 ([1, 3, 43, 44, 45].zip ([.ref 0 0 0, .v (.string b), .lst .str ks, .v (.int .i64 c), .v (.int .i64 v)] : List (TV U))) ([n.ob] : List (TO U)) 0 := by
  unfold dl19b at h
  split at h <;> try (cases h; done)
  rename_i ht ho
  have hs := told_ok ht
  rw [ho] at hs
  repeat' split at h
  all_goals first | (cases h; done) | (cases h; exact hs)
def P19 (L : Bool) (n : N3) (b : ByteArray) (ks : List ByteArray) (c v : Int) : Prop := n.Ok ∧ n.L = L ∧ b = n.hd ∧ ks = n.K ∧ c = n.K.length ∧ v = 0
noncomputable instance (L : Bool) (n : N3) (b : ByteArray) (ks : List ByteArray) (c v : Int) : Decidable (P19 L n b ks c v) := Classical.propDecidable _
noncomputable def lc19a : LC U := .of dl19a (fun (n, b, ks, c, v) => P19 true n b ks c v) (.exit 0) (fun (n, b, ks, c, v) => Z19 n.put)
noncomputable def lc19b : LC U := .of dl19b (fun (n, b, ks, c, v) => P19 false n b ks c v) (.exit 2) (fun (n, b, ks, c, v) => Z19 n.put)
noncomputable def lp19 : Lp U := lpL [(0, lc19a), (2, lc19b)]
theorem lp19_ok : ∀ c, Try.f19.body = some c → LpOk X Ep an19 lp19 (loops c 0) := lpL_ok (by kernel_rfl) fun b L hm st p hs => by
  cases hm with
  | head =>
    obtain ⟨⟨n, b, ks, c, v⟩, hx, ⟨h1, h2, rfl, rfl, rfl, rfl⟩, rfl⟩ := LC.of_some hs
    obtain rfl := dl19a_ok hx
    exact ⟨_, rounds19a _ n h1 h2⟩
  | tail _ h =>
    cases h with
    | tail _ h => cases h
    | head =>
      obtain ⟨⟨n, b, ks, c, v⟩, hx, ⟨h1, h2, rfl, rfl, rfl, rfl⟩, rfl⟩ := LC.of_some hs
      obtain rfl := dl19b_ok hx
      exact ⟨_, rounds19b _ n h1 h2⟩
theorem e19 (n : N3) : (evFn X Ep an19 lp19 Try.f19 [] [n.tv] fun (o : List (TO X.U)) (v : TV X.U) => some (o, v)) =
  if U64 (IntKind.u64.wrap (↑n.K.length : Int)) then
  bif n.L then
    if P19 true n (numB (IntKind.u64.wrap (↑n.K.length : Int))) n.K (↑n.K.length : Int) 0 then
      some ([], TV.v (Value.string n.put))
    else none
  else
    (getI n.I 0).bind fun (z : X.U.T C.i64) =>
      if U64 (IntKind.u64.wrap z) then
        if
            (numB (IntKind.u64.wrap (↑n.K.length : Int))).size + (numB (IntKind.u64.wrap z)).size ≤
              9223372036854775807 then
          if
              P19 false n (numB (IntKind.u64.wrap (↑n.K.length : Int)) ++ numB (IntKind.u64.wrap z)) n.K
                (↑n.K.length : Int) 0 then
            some ([], TV.v (Value.string n.put))
          else none
        else none
      else none
else none := by kernel_rfl
theorem o19 {n : N3} (h : n.Ok) : evFn X Ep an19 lp19 Try.f19 [] [n.tv] (fun o v => some (o, v)) = some ([], .v (.string n.put)) := by
  rw [e19, if_pos (u64_wrap _)]
  have h' := h
  obtain ⟨_, _, _, h1, h2⟩ := h'
  cases hL : n.L with
  | true =>
    have e : n.hd = numB (IntKind.u64.wrap (n.K.length : Int)) := by unfold N3.hd hdB; rw [hL]; rfl
    rw [cond_true, if_pos ⟨h, hL, e.symm, rfl, rfl, rfl⟩]
  | false =>
    have h2 := h2 hL
    have h3 := numB_size (u64_wrap (n.K.length : Int))
    obtain ⟨z, hz, hz2⟩ := getE (l := n.I) (v := 0) (Int.le_refl _) (by omega)
    have h4 := numB_size (u64_wrap z)
    have e : n.hd = numB (IntKind.u64.wrap (n.K.length : Int)) ++ numB (IntKind.u64.wrap z) := by
      unfold N3.hd hdB
      rw [hL, cond_false]
      cases hI : n.I with
      | nil => rw [hI] at hz; cases hz
      | cons x l => rw [hI] at hz; cases hz; rfl
    rw [cond_false, hz, Option.bind_some, if_pos (u64_wrap _), if_pos (by omega), if_pos ⟨h, hL, e.symm, rfl, rfl, rfl⟩]
def dN3 (objs : List (TO U)) (args : List (TV U)) : Option (N3) := match objs, args with
  | [], [a0] =>
    match a0 with
    | .agg [q0, q1, q2, q3] =>
      match q0 with
      | .v (.bool n_L) =>
        match q1 with
        | .lst .str n_K =>
          match q2 with
          | .lst .t33 n_V =>
            match q3 with
            | .lst .i64 n_I =>
              some (⟨n_L, n_K, n_V, n_I⟩ : N3)
            | _ => none
          | _ => none
        | _ => none
      | _ => none
    | _ => none
  | _, _ => none
theorem dN3_ok {objs : List (TO U)} {args : List (TV U)} {n : N3} (h : dN3 objs args = some n) : objs = [] ∧ args = [n.tv] := by
  unfold dN3 at h
  repeat' split at h
  all_goals first | (cases h; done) | (cases h; exact ⟨rfl, rfl⟩)
noncomputable def sPut0 : Spc U := .of dN3 (fun n => n.Ok) (fun _ => []) fun n => .v (.string n.put)
theorem sPut0_ok : SpecOk Try.prog 19 sPut0 := by
  refine fn_ok X_ok mixed Ep_ok an19 lp19 Try.func19 (by kernel_rfl) (by kernel_rfl) lp19_ok fun objs args n hx hp => ?_
  obtain ⟨rfl, rfl⟩ := dN3_ok hx
  exact o19 hp
noncomputable def sPut : Spc U := sPut0.wkA [.a [.no, .l .str, .l .t33, .l .i64]]
theorem sPut_ok : SpecOk Try.prog 19 sPut := sPut0_ok.wkA _
end Go.Proofs.Ytmcflglkfgnbbaa.Nd

/- Nodes as bytes: the reference's Put. -/
namespace Go.Proofs.Ytmcflglkfgnbbaa.Nd
open Go Go.RowKit Go.Proofs.Ytmcflglkfgnbbaa.Eng
set_option linter.unusedVariables false
set_option linter.unusedSimpArgs false
set_option maxRecDepth 20000
def N4.n3 (n : N4) : N3 := ⟨n.L, n.K, n.V.map cvB, n.I⟩
def P59 (n : N4) (i : Int) : Prop := n.n3.Ok ∧ 0 ≤ i ∧ i < n.K.length
noncomputable instance (n : N4) (i : Int) : Decidable (P59 n i) := Classical.propDecidable _
def pcB (n : N4) (i : Int) : ByteArray := (getI n.n3.pcs i).getD .empty
theorem getI_map {α β : Type} {f : α → β} {l : List α} {i : Int} {z : β} (h : getI (l.map f) i = some z) : ∃ x, getI l i = some x ∧ z = f x := by
  unfold getI at h ⊢
  split at h
  · rename_i h0
    rw [if_pos h0]
    rw [List.getElem?_map, Option.map_eq_some_iff] at h
    obtain ⟨x, h1, rfl⟩ := h
    exact ⟨x, h1, rfl⟩
  · cases h
theorem o59 {n : N4} {i : Int} (h : P59 n i) : evFn X Eu an0 lp0 Try.f59 [] [n.tv, .v (.int .i64 i)] (fun o v => some (o, v)) = some ([], .v (.string (pcB n i))) := by
  obtain ⟨h1, h2, h3⟩ := h
  have hl := h1.pcs
  have hk := h1.len
  obtain ⟨z, hz, _⟩ := getE (l := n.n3.pcs) h2 (by rw [hl]; exact h3)
  have hp : pcB n i = z := by unfold pcB; rw [hz]; rfl
  rw [hp]
  obtain ⟨L, K, V, I⟩ := n
  have hk : K.length ≤ 1000000 := hk
  have h3 : i < (K.length : Int) := h3
  rw [e59]
  dsimp only
  cases L with
  | false =>
    obtain ⟨k, w, e1, e2, rfl, e3, e4⟩ := pcs_inner h1 hz
    have e1 : getI K i = some k := e1
    have e2 : getI I (i + 1) = some w := e2
    have := textB_size e3
    have := numB_size (u64_wrap w)
    rw [e1, Option.bind_some, if_pos e3, Bool.not_false, cond_true, wr (a := i + 1) (by omega) (by omega), e2, Option.bind_some, if_pos (u64_wrap _), if_pos (by omega)]
    rfl
  | true =>
    obtain ⟨k, w, e1, e2, rfl, ⟨e3, e5⟩, e4⟩ := pcs_leaf h1 hz
    have e1 : getI K i = some k := e1
    obtain ⟨u, e6, rfl⟩ := getI_map (l := V) e2
    have e5 : Sz u.Data.size := e5
    have h6 := textB_size e3
    have h7 := textB_size e5
    have h8 := numB_size (u64_wrap u.Page)
    have h9 := numB_size (u64_wrap u.Len)
    rw [e1, Option.bind_some, if_pos e3, Bool.not_true, cond_false, e6]
    simp only [Option.bind_some]
    unfold entB cvB
    dsimp only
    cases decide (0 ≤ u.Page)
    · simp only [cond_false, app_size, sz1, Option.bind_some]
      rw [if_pos (show (textB k).size + 1 ≤ 9223372036854775807 by omega), if_pos e5, if_pos (show (textB k).size + 1 + (textB u.Data).size ≤ 9223372036854775807 by omega)]
    · simp only [cond_true, app_size, sz1, Option.bind_some]
      rw [if_pos (show (textB k).size + 1 ≤ 9223372036854775807 by omega), if_pos (u64_wrap _), if_pos (show (textB k).size + 1 + (numB (IntKind.u64.wrap u.Page)).size ≤ 9223372036854775807 by omega), if_pos (u64_wrap _), if_pos (by omega)]
def d59 (objs : List (TO U)) (args : List (TV U)) : Option (N4 × Int) := match objs, args with
  | [], [a0, a1] =>
    match a0 with
    | .agg [q0, q1, q2, q3] =>
      match q0 with
      | .v (.bool n_L) =>
        match q1 with
        | .lst .str n_K =>
          match q2 with
          | .lst .t83 n_V =>
            match q3 with
            | .lst .i64 n_I =>
              match a1 with
              | .v (.int .i64 i) =>
                some ((⟨n_L, n_K, n_V, n_I⟩ : N4), i)
              | _ => none
            | _ => none
          | _ => none
        | _ => none
      | _ => none
    | _ => none
  | _, _ => none
theorem d59_ok {objs : List (TO U)} {args : List (TV U)} {n : N4} {i : Int} (h : d59 objs args = some (n, i)) : objs = [] ∧ args = [n.tv, .v (.int .i64 i)] := by
  unfold d59 at h
  repeat' split at h
  all_goals first | (cases h; done) | (cases h; exact ⟨rfl, rfl⟩)
noncomputable def sPc : Spc U := .of d59 (fun (n, i) => P59 n i) (fun _ => []) fun (n, i) => .v (.string (pcB n i))
theorem sPc_ok : SpecOk Try.prog 59 sPc := by
  refine fn_ok X_ok mixed Eu_ok an0 lp0 Try.func59 (by kernel_rfl) (by kernel_rfl) (lp0_ok (by kernel_rfl)) fun objs args x hx hp => ?_
  obtain ⟨n, i⟩ := x
  obtain ⟨rfl, rfl⟩ := d59_ok hx
  exact o59 hp
noncomputable def Ex : FuncId → Option (Spc U)
  | 58 => some sNumR
  | 59 => some sPc
  | _ => none
theorem Ex_ok : ∀ f S, Ex f = some S → SpecOk Try.prog f S := fun f S h => by
  unfold Ex at h
  split at h
  · cases h; exact sNumR_ok
  · cases h; exact sPc_ok
  · cases h
def S25 (n : N4) (b : ByteArray) (v : Int) : TS U := mkS 34 [(1, .ref 0 0 0), (3, .v (.string b)), (4, .v (.int .i64 v))] [n.ob] 0
def Z25 (b : ByteArray) : TS U := mkS 34 [(3, .v (.string b))] [] 0
theorem r25 (lp : Lp
  U) (N : Nat) (n : N4) (b : ByteArray) (v : Int) : (fnLoop X Ex an25 lp Try.f25 0 N.succ (S25 n b v)) =
  bif decide (v < (↑n.K.length : Int)) then
  if P59 n v then
    if b.size + (pcB n v).size ≤ 9223372036854775807 then
      fnLoop X Ex an25 lp Try.f25 0 N
        (mkS 34
          [(1, TV.ref 0 0 0), (3, TV.v (Value.string (b ++ pcB n v))),
            (4, TV.v (Value.int IntKind.i64 (IntKind.i64.wrap (v + 1))))]
          [n.ob] 0)
    else none
  else none
else some (Exit.exit 0, mkS 34 [(3, TV.v (Value.string b))] [] 0) := by kernel_rfl
theorem rounds25 (lp : Lp U) (n : N4) (h : n.n3.Ok) : fnLoop X Ex an25 lp Try.f25 0 (n.n3.pcs.length + 1) (S25 n n.n3.hd 0) = some (.exit 0, Z25 n.n3.put) := by
  have hl : n.n3.pcs.length = n.K.length := h.pcs
  have hk : n.K.length ≤ 1000000 := h.len
  refine fold_rounds (fnl := fnLoop X Ex an25 lp Try.f25 0) (fun b v => S25 n b v) (fun b => ((.exit 0, Z25 b) : Exit × TS U)) n.n3.pcs (fun b v => (b.size : Int) ≤ 20 + 300000000 * v) (· ++ ·) (fun N b v z hI h0 h1 hz => ?_) (fun N b v hI h1 => ?_) _ _ 0 (by
      have : n.n3.hd.size ≤ 20 := hdB_size _ _ _
      omega) (Int.le_refl _) (by omega)
  · have hp : P59 n v := ⟨h, h0, by omega⟩
    have hb : pcB n v = z := by unfold pcB; rw [hz]; rfl
    have hs : z.size ≤ 300000000 := by
      cases hL : n.L with
      | true =>
        have h' : Pn true n.n3.K n.n3.V n.n3.I := by have := h; unfold N3.Ok at this; rw [show n.n3.L = true from hL] at this; exact this
        have hz' : getI (pcs true n.n3.K n.n3.V n.n3.I) v = some z := by have := hz; unfold N3.pcs at this; rw [show n.n3.L = true from hL] at this; exact this
        obtain ⟨_, _, _, _, _, _, e⟩ := pcs_leaf h' hz'
        exact e
      | false =>
        have h' : Pn false n.n3.K n.n3.V n.n3.I := by have := h; unfold N3.Ok at this; rw [show n.n3.L = false from hL] at this; exact this
        have hz' : getI (pcs false n.n3.K n.n3.V n.n3.I) v = some z := by have := hz; unfold N3.pcs at this; rw [show n.n3.L = false from hL] at this; exact this
        obtain ⟨_, _, _, _, _, _, e⟩ := pcs_inner h' hz'
        exact e
    refine ⟨?_, by rw [app_size]; omega⟩
    rw [r25, decide_eq_true (by omega), cond_true, if_pos hp, hb, if_pos (by omega), wr (a := v + 1) (by omega) (by omega)]
    rfl
  · rw [r25, decide_eq_false (by omega)]
    rfl
def P25 (n : N4) (b : ByteArray) (v : Int) : Prop := n.n3.Ok ∧ b = n.n3.hd ∧ v = 0
noncomputable instance (n : N4) (b : ByteArray) (v : Int) : Decidable (P25 n b v) := Classical.propDecidable _
def dl25 (s : TS U) : Option (N4 × ByteArray × Int) := match told s 34 [1, 3, 4] 0, s.objs with
  | some [a0, a1, a2], [o0] =>
    match o0 with
    | .cells [q0, q1, q2, q3] false =>
      match q0 with
      | .v (.bool n_L) =>
        match q1 with
        | .lst .str n_K =>
          match q2 with
          | .lst .t83 n_V =>
            match q3 with
            | .lst .i64 n_I =>
              match a0 with
              | .ref 0 0 0 =>
                match a1 with
                | .v (.string b) =>
                  match a2 with
                  | .v (.int .i64 v) =>
                    some ((⟨n_L, n_K, n_V, n_I⟩ : N4), b, v)
                  | _ => none
                | _ => none
              | _ => none
            | _ => none
          | _ => none
        | _ => none
      | _ => none
    | _ => none
  | _, _ => none
theorem dl25_ok {s : TS U} {n : N4} {b : ByteArray} {v : Int} (h : dl25 s = some (n, b, v)) : s = mkS (U := U) 34 ([1, 3, 4].zip ([.ref 0 0 0, .v (.string b), .v (.int .i64 v)] : List (TV U))) ([n.ob] : List (TO U)) 0 := by
  unfold dl25 at h
  split at h <;> try (cases h; done)
  rename_i ht ho
  have hs := told_ok ht
  rw [ho] at hs
  repeat' split at h
  all_goals first | (cases h; done) | (cases h; exact hs)
noncomputable def lc25 : LC U := .of dl25 (fun (n, b, v) => P25 n b v) (.exit 0) (fun (n, b, v) => Z25 n.n3.put)
noncomputable def lp25 : Lp U := lpL [(0, lc25)]
theorem lp25_ok : ∀ c, Try.f25.body = some c → LpOk X Ex an25 lp25 (loops c 0) := lpL_ok (by kernel_rfl) fun b L hm st p hs => by
  cases hm with
  | tail _ h => cases h
  | head =>
    obtain ⟨⟨n, b, v⟩, hx, ⟨h1, rfl, rfl⟩, rfl⟩ := LC.of_some hs
    obtain rfl := dl25_ok hx
    exact ⟨_, rounds25 _ n h1⟩
theorem e25 (n : N4) : (evFn X Ex an25 lp25 Try.f25 [] [n.tv] fun (o : List (TO X.U)) (v : TV X.U) => some (o, v)) =
  if U64 (IntKind.u64.wrap (↑n.K.length : Int)) then
  bif !n.L then
    (getI n.I 0).bind fun (z : X.U.T C.i64) =>
      if U64 (IntKind.u64.wrap z) then
        if
            (numB (IntKind.u64.wrap (↑n.K.length : Int))).size + (numB (IntKind.u64.wrap z)).size ≤
              9223372036854775807 then
          if P25 n (numB (IntKind.u64.wrap (↑n.K.length : Int)) ++ numB (IntKind.u64.wrap z)) 0 then
            some ([], TV.v (Value.string n.n3.put))
          else none
        else none
      else none
  else if P25 n (numB (IntKind.u64.wrap (↑n.K.length : Int))) 0 then some ([], TV.v (Value.string n.n3.put)) else none
else none := by kernel_rfl
theorem o25 {n : N4} (h : n.n3.Ok) : evFn X Ex an25 lp25 Try.f25 [] [n.tv] (fun o v => some (o, v)) = some ([], .v (.string n.n3.put)) := by
  rw [e25, if_pos (u64_wrap _)]
  have h' := h
  obtain ⟨_, _, _, h1, h2⟩ := h'
  cases hL : n.L with
  | true =>
    have e : n.n3.hd = numB (IntKind.u64.wrap (n.K.length : Int)) := by unfold N3.hd hdB N4.n3; rw [hL]; rfl
    rw [Bool.not_true, cond_false, if_pos ⟨h, e.symm, rfl⟩]
  | false =>
    have h2 : n.I.length = n.K.length + 1 := h2 hL
    have h3 := numB_size (u64_wrap (n.K.length : Int))
    obtain ⟨z, hz, hz2⟩ := getE (l := n.I) (v := 0) (Int.le_refl _) (by omega)
    have h4 := numB_size (u64_wrap z)
    have e : n.n3.hd = numB (IntKind.u64.wrap (n.K.length : Int)) ++ numB (IntKind.u64.wrap z) := by
      unfold N3.hd hdB N4.n3
      rw [hL, cond_false]
      dsimp only
      cases hI : n.I with
      | nil => rw [hI] at hz; cases hz
      | cons x l => rw [hI] at hz; cases hz; rfl
    rw [Bool.not_false, cond_true, hz, Option.bind_some, if_pos (u64_wrap _), if_pos (by omega), if_pos ⟨h, e.symm, rfl⟩]
def dNa (objs : List (TO U)) (args : List (TV U)) : Option (N4) := match objs, args with
  | [], [a0] =>
    match a0 with
    | .agg [q0, q1, q2, q3] =>
      match q0 with
      | .v (.bool n_L) =>
        match q1 with
        | .lst .str n_K =>
          match q2 with
          | .lst .t83 n_V =>
            match q3 with
            | .lst .i64 n_I =>
              some (⟨n_L, n_K, n_V, n_I⟩ : N4)
            | _ => none
          | _ => none
        | _ => none
      | _ => none
    | _ => none
  | _, _ => none
theorem dNa_ok {objs : List (TO U)} {args : List (TV U)} {n : N4} (h : dNa objs args = some n) : objs = [] ∧ args = [n.tv] := by
  unfold dNa at h
  repeat' split at h
  all_goals first | (cases h; done) | (cases h; exact ⟨rfl, rfl⟩)
noncomputable def sPutR : Spc U := .of dNa (fun n => n.n3.Ok) (fun _ => []) fun n => .v (.string n.n3.put)
theorem sPutR_ok : SpecOk Try.prog 25 sPutR := by
  refine fn_ok X_ok mixed Ex_ok an25 lp25 Try.func25 (by kernel_rfl) (by kernel_rfl) lp25_ok fun objs args n hx hp => ?_
  obtain ⟨rfl, rfl⟩ := dNa_ok hx
  exact o25 hp
/-- The document's node says what the node says. -/
theorem refP_n3 (b : Bool) (ks : List ByteArray) (vs : List R33) (ki : List Int) : (refP b ks vs ki).n3 = ⟨b, ks, vs, ki⟩ := by
  unfold refP N4.n3
  dsimp only
  rw [List.map_map, show cvB ∘ cvR = id from rfl, List.map_id]
end Go.Proofs.Ytmcflglkfgnbbaa.Nd

/- Inner nodes. -/
namespace Go.Proofs.Ytmcflglkfgnbbaa.Nd
open Go Go.RowKit Go.Proofs.Ytmcflglkfgnbbaa.Eng
set_option linter.unusedVariables false
set_option linter.unusedSimpArgs false
set_option maxRecDepth 20000
def Ei : FuncId → Option (Spc U)
  | 9 => some sLeaf
  | _ => none
theorem Ei_ok : ∀ f S, Ei f = some S → SpecOk Try.prog f S := fun f S h => by
  unfold Ei at h
  split at h
  · cases h; exact sLeaf_ok
  · cases h
def an45 : Ann := ⟨fun | 0 => 61 | _ => 0, fun | 0 => 20 | _ => 0, fun _ => [], false⟩
def pgI (z : R24) : Int := IntKind.i64.wrap (↑(BitVec.ofInt IntKind.i64.bits z.Page &&& BitVec.ofInt IntKind.i64.bits 16383).toNat : Int)
/-- The pages of an inner node of so many keys. -/
def inI (l : List R24) (k : Nat) : List Int := 5 :: (l.take k).map pgI
def kT (e : Bool) (ks : List ByteArray) : TV U := cond e nlv (.lst .str ks)
def vT (e : Bool) (vs : List R33) : TV U := cond e nlv (.lst .t33 vs)
def S45 (l : List R24) (a : TV U) (b : TV U) (i : Int) (xs : List Int) : TS U := mkS 31 [(0, .lst .t24 l), (2, .ref 0 0 0), (3, .ref 1 0 0), (4, .ref 2 0 0), (5, .v (.int .i64 i))]
  [.cells [.v (.bool false), nlv, nlv, nlv] false, .cells [.v (.bool true), a, b, nlv] false, .cells [.v (.bool false), a, nlv, .full 3] false, .row .i64 xs false] 0
def Z45 (a : TV U) (xs : List Int) : TS U := mkS 31 [(2, .ref 0 0 0), (4, .ref 1 0 0)] [.cells [.v (.bool false), nlv, nlv, nlv] false, .cells [.v (.bool false), a, nlv, .full 2] false, .row .i64 xs false] 0
theorem r45n (lp : Lp U) (N : Nat) (l : List R24) (i : Int) (xs : List Int) : fnLoop X Ei an45 lp Try.f45 0 N.succ (S45 l nlv nlv 0 xs) = some (.exit 0, Z45 nlv xs) := by kernel_rfl
theorem r45 (lp : Lp
  U) (N : Nat) (l : List
  R24) (ks : List
  ByteArray) (vs : List
  R33) (i : Int) (xs : List
  Int) : (fnLoop X Ei an45 lp Try.f45 0 N.succ (S45 l (TV.lst C.str ks) (TV.lst C.t33 vs) i xs)) =
  bif decide (i < (↑ks.length : Int)) then
  (getI l i).bind fun (z : X.U.T C.t24) =>
    if (xs.length + 1) * 8 ≤ 140737488355328 then
      fnLoop X Ei an45 lp Try.f45 0 N
        (mkS 31
          [(0, TV.lst C.t24 l), (2, TV.ref 0 0 0), (3, TV.ref 1 0 0), (4, TV.ref 2 0 0),
            (5, TV.v (Value.int IntKind.i64 (IntKind.i64.wrap (i + 1))))]
          [TO.cells
              [TV.v (Value.bool false), TV.v (Value.slice none 0 0), TV.v (Value.slice none 0 0),
                TV.v (Value.slice none 0 0)]
              false,
            TO.cells [TV.v (Value.bool true), TV.lst C.str ks, TV.lst C.t33 vs, TV.v (Value.slice none 0 0)] false,
            TO.cells [TV.v (Value.bool false), TV.lst C.str ks, TV.v (Value.slice none 0 0), TV.full 3] false,
            TO.row C.i64
              (xs ++
                [IntKind.i64.wrap
                    (↑(BitVec.ofInt IntKind.i64.bits z.Page &&& BitVec.ofInt IntKind.i64.bits 16383).toNat : Int)])
              false]
          0)
    else none
else
  some
    (Exit.exit 0,
      mkS 31 [(2, TV.ref 0 0 0), (4, TV.ref 1 0 0)]
        [TO.cells
            [TV.v (Value.bool false), TV.v (Value.slice none 0 0), TV.v (Value.slice none 0 0),
              TV.v (Value.slice none 0 0)]
            false,
          TO.cells [TV.v (Value.bool false), TV.lst C.str ks, TV.v (Value.slice none 0 0), TV.full 2] false,
          TO.row C.i64 xs false]
        0) := by kernel_rfl
theorem rounds45 (lp : Lp U) (l : List R24) (ks : List ByteArray) (vs : List R33) (h1 : ks.length ≤ l.length) (h2 : ks.length ≤ 40) : ∀ (m k : Nat), k + m = ks.length → fnLoop X Ei an45 lp Try.f45 0 (m + 1) (S45 l (.lst .str ks) (.lst .t33 vs) k (inI l k)) = some (.exit 0, Z45 (.lst .str ks) (inI l ks.length)) := by
  intro m
  induction m with
  | zero =>
    intro k hk
    obtain rfl : k = ks.length := hk
    rw [r45, decide_eq_false (by omega)]
    rfl
  | succ m ih =>
    intro k hk
    obtain ⟨z, hz, hz2⟩ := getE (l := l) (v := (k : Int)) (by omega) (by omega)
    have hz3 : l[k]? = some z := hz2
    have hlen : (inI l k).length ≤ 41 := by unfold inI; rw [List.length_cons, List.length_map, List.length_take]; omega
    have hs : inI l k ++ [pgI z] = inI l (k + 1) := by
      unfold inI
      rw [List.take_add_one, hz3, List.map_append]
      rfl
    rw [r45, decide_eq_true (by omega), hz]
    simp only [cond_true, Option.bind_some]
    rw [if_pos (by omega), wr (a := (k : Int) + 1) (by omega) (by omega)]
    have := ih (k + 1) (by omega)
    rw [← hs] at this
    exact this
def dl45n (s : TS U) : Option (Bool × Bool × Bool × List Int × List R24 × Int) := match told s 31 [0, 2, 3, 4, 5] 0, s.objs with
  | some [a0, a1, a2, a3, a4], [o0, o1, o2, o3] =>
    match o0 with
    | .cells [q0, q1, q2, q3] false =>
      match q0 with
      | .v (.bool b0) =>
        match q1 with
        | .v (.slice none 0 0) =>
          match q2 with
          | .v (.slice none 0 0) =>
            match q3 with
            | .v (.slice none 0 0) =>
              match o1 with
              | .cells [q4, q5, q6, q7] false =>
                match q4 with
                | .v (.bool b1) =>
                  match q5 with
                  | .v (.slice none 0 0) =>
                    match q6 with
                    | .v (.slice none 0 0) =>
                      match q7 with
                      | .v (.slice none 0 0) =>
                        match o2 with
                        | .cells [q8, q9, q10, q11] false =>
                          match q8 with
                          | .v (.bool b2) =>
                            match q9 with
                            | .v (.slice none 0 0) =>
                              match q10 with
                              | .v (.slice none 0 0) =>
                                match q11 with
                                | .full 3 =>
                                  match o3 with
                                  | .row .i64 xs false =>
                                    match a0 with
                                    | .lst .t24 l =>
                                      match a1 with
                                      | .ref 0 0 0 =>
                                        match a2 with
                                        | .ref 1 0 0 =>
                                          match a3 with
                                          | .ref 2 0 0 =>
                                            match a4 with
                                            | .v (.int .i64 i) =>
                                              some (b0, b1, b2, xs, l, i)
                                            | _ => none
                                          | _ => none
                                        | _ => none
                                      | _ => none
                                    | _ => none
                                  | _ => none
                                | _ => none
                              | _ => none
                            | _ => none
                          | _ => none
                        | _ => none
                      | _ => none
                    | _ => none
                  | _ => none
                | _ => none
              | _ => none
            | _ => none
          | _ => none
        | _ => none
      | _ => none
    | _ => none
  | _, _ => none
theorem dl45n_ok {s : TS U} {b0 : Bool} {b1 : Bool} {b2 : Bool} {xs : List Int} {l : List R24} {i : Int} (h : dl45n s = some (b0, b1, b2, xs, l, i)) : s = mkS (U := U) 31 ([0, 2, 3, 4, 5].zip ([.lst .t24 l, .ref 0 0 0, .ref 1 0 0, .ref 2 0 0, .v (.int .i64 i)] : List (TV U))) ([.cells [.v (.bool b0), .v (.slice none 0 0), .v (.slice none 0 0), .v (.slice none 0 0)] false, .cells [.v (.bool b1), .v (.slice none 0 0), .v (.slice none 0 0), .v (.slice none 0 0)] false, .cells [.v (.bool b2), .v (.slice none 0 0), .v (.slice none 0 0), .full 3] false, .row .i64 xs false] : List (TO U)) 0 := by
  unfold dl45n at h
  split at h <;> try (cases h; done)
  rename_i ht ho
  have hs := told_ok ht
  rw [ho] at hs
  repeat' split at h
  all_goals first | (cases h; done) | (cases h; exact hs)
def dl45c (s : TS U) : Option (Bool × Bool × List ByteArray × List R33 × Bool × List ByteArray × List Int × List R24 × Int) := match told s 31 [0, 2, 3, 4, 5] 0, s.objs with
  | some [a0, a1, a2, a3, a4], [o0, o1, o2, o3] =>
    match o0 with
    | .cells [q0, q1, q2, q3] false =>
      match q0 with
      | .v (.bool b0) =>
        match q1 with
        | .v (.slice none 0 0) =>
          match q2 with
          | .v (.slice none 0 0) =>
            match q3 with
            | .v (.slice none 0 0) =>
              match o1 with
              | .cells [q4, q5, q6, q7] false =>
                match q4 with
                | .v (.bool b1) =>
                  match q5 with
                  | .lst .str ks =>
                    match q6 with
                    | .lst .t33 vs =>
                      match q7 with
                      | .v (.slice none 0 0) =>
                        match o2 with
                        | .cells [q8, q9, q10, q11] false =>
                          match q8 with
                          | .v (.bool b2) =>
                            match q9 with
                            | .lst .str kt =>
                              match q10 with
                              | .v (.slice none 0 0) =>
                                match q11 with
                                | .full 3 =>
                                  match o3 with
                                  | .row .i64 xs false =>
                                    match a0 with
                                    | .lst .t24 l =>
                                      match a1 with
                                      | .ref 0 0 0 =>
                                        match a2 with
                                        | .ref 1 0 0 =>
                                          match a3 with
                                          | .ref 2 0 0 =>
                                            match a4 with
                                            | .v (.int .i64 i) =>
                                              some (b0, b1, ks, vs, b2, kt, xs, l, i)
                                            | _ => none
                                          | _ => none
                                        | _ => none
                                      | _ => none
                                    | _ => none
                                  | _ => none
                                | _ => none
                              | _ => none
                            | _ => none
                          | _ => none
                        | _ => none
                      | _ => none
                    | _ => none
                  | _ => none
                | _ => none
              | _ => none
            | _ => none
          | _ => none
        | _ => none
      | _ => none
    | _ => none
  | _, _ => none
theorem dl45c_ok {s : TS U} {b0 : Bool} {b1 : Bool} {ks : List ByteArray} {vs : List R33} {b2 : Bool} {kt : List ByteArray} {xs : List Int} {l : List R24} {i : Int} (h : dl45c s = some (b0, b1, ks, vs, b2, kt, xs, l, i)) : s = mkS (U := U) 31 ([0, 2, 3, 4, 5].zip ([.lst .t24 l, .ref 0 0 0, .ref 1 0 0, .ref 2 0 0, .v (.int .i64 i)] : List (TV U))) ([.cells [.v (.bool b0), .v (.slice none 0 0), .v (.slice none 0 0), .v (.slice none 0 0)] false, .cells [.v (.bool b1), .lst .str ks, .lst .t33 vs, .v (.slice none 0 0)] false, .cells [.v (.bool b2), .lst .str kt, .v (.slice none 0 0), .full 3] false, .row .i64 xs false] : List (TO U)) 0 := by
  unfold dl45c at h
  split at h <;> try (cases h; done)
  rename_i ht ho
  have hs := told_ok ht
  rw [ho] at hs
  repeat' split at h
  all_goals first | (cases h; done) | (cases h; exact hs)
structure A45 where
  e : Bool
  b0 : Bool
  b1 : Bool
  b2 : Bool
  ks : List ByteArray
  vs : List R33
  kt : List ByteArray
  xs : List Int
  l : List R24
  i : Int
def P45 (a : A45) : Prop := a.b0 = false ∧ a.b1 = true ∧ a.b2 = false ∧ a.kt = a.ks ∧ a.i = 0 ∧ a.xs = [5] ∧ a.ks.length ≤ a.l.length ∧ a.ks.length ≤ 40
instance (a : A45) : Decidable (P45 a) := by unfold P45; infer_instance
def dl45 : TS U → Option A45 := orD (fun s => (dl45n s).map fun (b0, b1, b2, xs, l, i) => ⟨true, b0, b1, b2, [], [], [], xs, l, i⟩) (fun s => (dl45c s).map fun (b0, b1, ks, vs, b2, kt, xs, l, i) => ⟨false, b0, b1, b2, ks, vs, kt, xs, l, i⟩)
def lc45 : LC U := .of2 dl45 P45 (fun a => a.e) (.exit 0) (fun a => Z45 nlv (inI a.l 0)) (.exit 0) fun a => Z45 (.lst .str a.ks) (inI a.l a.ks.length)
def lp45 : Lp U := lpL [(0, lc45)]
theorem lp45_ok : ∀ c, Try.f45.body = some c → LpOk X Ei an45 lp45 (loops c 0) := lpL_ok (by kernel_rfl) fun b L hm st p hs => by
  cases hm with
  | tail _ h => cases h
  | head =>
    obtain ⟨a, hx, ⟨h1, h2, h3, h4, h5, h6, h7, h8⟩, rfl⟩ := LC.of2_some hs
    rcases orD_some hx with hy | hy
    · rw [Option.map_eq_some_iff] at hy
      obtain ⟨⟨b0, b1, b2, xs, l, i⟩, hd, rfl⟩ := hy
      obtain rfl := dl45n_ok hd
      dsimp only at h1 h2 h3 h5 h6
      subst h1 h2 h3 h5 h6
      exact ⟨1, r45n _ 0 l 0 [5]⟩
    · rw [Option.map_eq_some_iff] at hy
      obtain ⟨⟨b0, b1, ks, vs, b2, kt, xs, l, i⟩, hd, rfl⟩ := hy
      obtain rfl := dl45c_ok hd
      dsimp only at h1 h2 h3 h4 h5 h6 h7 h8
      subst h1 h2 h3 h4 h5 h6
      exact ⟨_, rounds45 _ l _ vs h7 h8 _ 0 (Nat.zero_add _)⟩
theorem e45 (l : List
  R24) : (evFn X Ei an45 lp45 Try.f45 [] [TV.lst C.t24 l] fun (o : List (TO X.U)) (v : TV X.U) => some (o, v)) =
  if True then
  bif (lfP l).fst.isEmpty then
    if
        P45
          { e := true, b0 := false, b1 := true, b2 := false, ks := [], vs := [], kt := [], xs := [5], l := l,
            i := 0 } then
      some
        ([],
          TV.agg
            [TV.v (Value.bool false), TV.v (Value.slice none 0 0), TV.v (Value.slice none 0 0), TV.lst C.i64 (inI l 0)])
    else none
  else
    if
        P45
          { e := false, b0 := false, b1 := true, b2 := false, ks := cS (lfP l).fst, vs := cV (lfP l).snd,
            kt := cS (lfP l).fst, xs := [5], l := l, i := 0 } then
      some
        ([],
          TV.agg
            [TV.v (Value.bool false), TV.lst C.str (cS (lfP l).fst), TV.v (Value.slice none 0 0),
              TV.lst C.i64 (inI l (cS (lfP l).fst).length)])
    else none
else none := by kernel_rfl
theorem lfP_len (l : List R24) : (lfP l).1.length ≤ l.length := by
  have hl : (l.take 40).length ≤ 40 := by rw [List.length_take]; omega
  obtain ⟨_, b⟩ := fold_ok (l.take 40) ([], []) 0 pre0 (Nat.le_refl 0) (by omega)
  rw [List.length_take] at b
  show ((l.take 40).foldl stL ([], [])).1.length ≤ _
  omega
def dL45 (objs : List (TO U)) (args : List (TV U)) : Option (List R24) := match objs, args with
  | [], [a0] =>
    match a0 with
    | .lst .t24 l =>
      some l
    | _ => none
  | _, _ => none
theorem dL45_ok {objs : List (TO U)} {args : List (TV U)} {l : List R24} (h : dL45 objs args = some l) : objs = [] ∧ args = [.lst .t24 l] := by
  unfold dL45 at h
  repeat' split at h
  all_goals first | (cases h; done) | (cases h; exact ⟨rfl, rfl⟩)
def sInn : Spc U := .of2 dL45 (fun _ => True) (fun l => (lfP l).1.isEmpty) (fun _ => []) (fun l => .agg [.v (.bool false), nlv, nlv, .lst .i64 (inI l 0)]) (fun _ => []) fun l => .agg [.v (.bool false), .lst .str (cS (lfP l).1), nlv, .lst .i64 (inI l (lfP l).1.length)]
theorem sInn_ok : SpecOk Try.prog 45 sInn := by
  refine fn_ok2 X_ok mixed Ei_ok an45 lp45 Try.func45 (by kernel_rfl) (by kernel_rfl) lp45_ok fun objs args l hx hp => ?_
  obtain ⟨rfl, rfl⟩ := dL45_ok hx
  refine (e45 l).trans ?_
  obtain ⟨h1, h2⟩ := lfP_ok l
  have h3 := lfP_len l
  rw [if_pos trivial]
  cases hq : (lfP l).1 with
  | nil => rw [List.isEmpty_nil, cond_true, if_pos (show P45 ⟨true, false, true, false, [], [], [], [5], l, 0⟩ from ⟨rfl, rfl, rfl, rfl, rfl, rfl, Nat.zero_le _, Nat.zero_le _⟩)]; rfl
  | cons x xs =>
    have e1 : cS (x :: xs) = x :: xs := rfl
    rw [hq] at h2 h3
    rw [e1]
    rw [List.isEmpty_cons, cond_false, if_pos (show P45 ⟨false, false, true, false, x :: xs, cV (lfP l).2, x :: xs, [5], l, 0⟩ from ⟨rfl, rfl, rfl, rfl, rfl, rfl, h3, h2⟩)]; rfl
end Go.Proofs.Ytmcflglkfgnbbaa.Nd

/- A leaf, or an inner node. -/
namespace Go.Proofs.Ytmcflglkfgnbbaa.Nd
open Go Go.RowKit Go.Proofs.Ytmcflglkfgnbbaa.Eng
set_option linter.unusedVariables false
set_option linter.unusedSimpArgs false
set_option maxRecDepth 20000
def Eei : FuncId → Option (Spc U)
  | 9 => some sLeaf
  | 45 => some sInn
  | _ => none
theorem Eei_ok : ∀ f S, Eei f = some S → SpecOk Try.prog f S := fun f S h => by
  unfold Eei at h
  split at h
  · cases h; exact sLeaf_ok
  · cases h; exact sInn_ok
  · cases h
theorem e18t (l : List
  R24) : (evFn X Eei an0 lp0 Try.f18 [] [TV.lst C.t24 l, TV.v (Value.bool true)] fun (o : List (TO X.U)) (v : TV X.U) =>
  some (o, v)) =
  if True then
  bif (lfP l).fst.isEmpty then
    some
      ([],
        TV.agg
          [TV.v (Value.bool true), TV.v (Value.slice none 0 0), TV.v (Value.slice none 0 0),
            TV.v (Value.slice none 0 0)])
  else
    some
      ([],
        TV.agg
          [TV.v (Value.bool true), TV.lst C.str (cS (lfP l).fst), TV.lst C.t33 (cV (lfP l).snd),
            TV.v (Value.slice none 0 0)])
else none := by kernel_rfl
theorem e18f (l : List
  R24) : (evFn X Eei an0 lp0 Try.f18 [] [TV.lst C.t24 l, TV.v (Value.bool false)]
  fun (o : List (TO X.U)) (v : TV X.U) => some (o, v)) =
  if True then
  bif (lfP l).fst.isEmpty then
    some
      ([],
        TV.agg
          [TV.v (Value.bool false), TV.v (Value.slice none 0 0), TV.v (Value.slice none 0 0), TV.lst C.i64 (inI l 0)])
  else
    some
      ([],
        TV.agg
          [TV.v (Value.bool false), TV.lst C.str (cS (lfP l).fst), TV.v (Value.slice none 0 0),
            TV.lst C.i64 (inI l (lfP l).fst.length)])
else none := by kernel_rfl
def d18 (objs : List (TO U)) (args : List (TV U)) : Option (List R24 × Bool) := match objs, args with
  | [], [a0, a1] =>
    match a0 with
    | .lst .t24 l =>
      match a1 with
      | .v (.bool b) =>
        some (l, b)
      | _ => none
    | _ => none
  | _, _ => none
theorem d18_ok {objs : List (TO U)} {args : List (TV U)} {l : List R24} {b : Bool} (h : d18 objs args = some (l, b)) : objs = [] ∧ args = [.lst .t24 l, .v (.bool b)] := by
  unfold d18 at h
  repeat' split at h
  all_goals first | (cases h; done) | (cases h; exact ⟨rfl, rfl⟩)
def isT : List (TV U) → Bool
  | [_, .v (.bool true)] => true
  | _ => false
def sEiT : Spc U := .of2 d18 (fun (l, b) => b = true) (fun (l, b) => (lfP l).1.isEmpty) (fun _ => []) (fun _ => .agg [.v (.bool true), nlv, nlv, nlv]) (fun _ => []) fun (l, b) => .agg [.v (.bool true), .lst .str (cS (lfP l).1), .lst .t33 (cV (lfP l).2), nlv]
def sEiF : Spc U := .of2 d18 (fun (l, b) => b = false) (fun (l, b) => (lfP l).1.isEmpty) (fun _ => []) (fun (l, b) => .agg [.v (.bool false), nlv, nlv, .lst .i64 (inI l 0)]) (fun _ => []) fun (l, b) => .agg [.v (.bool false), .lst .str (cS (lfP l).1), nlv, .lst .i64 (inI l (lfP l).1.length)]
theorem sEiT_ok : SpecOk Try.prog 18 sEiT := by
  refine fn_ok2 X_ok mixed Eei_ok an0 lp0 Try.func18 (by kernel_rfl) (by kernel_rfl) (lp0_ok (by kernel_rfl)) fun objs args x hx hp => ?_
  obtain ⟨l, b⟩ := x
  obtain ⟨rfl, rfl⟩ := d18_ok hx
  obtain rfl : b = true := hp
  refine (e18t l).trans ?_
  rw [if_pos trivial]
  dsimp only
  cases (lfP l).1.isEmpty <;> rfl
theorem sEiF_ok : SpecOk Try.prog 18 sEiF := by
  refine fn_ok2 X_ok mixed Eei_ok an0 lp0 Try.func18 (by kernel_rfl) (by kernel_rfl) (lp0_ok (by kernel_rfl)) fun objs args x hx hp => ?_
  obtain ⟨l, b⟩ := x
  obtain ⟨rfl, rfl⟩ := d18_ok hx
  obtain rfl : b = false := hp
  refine (e18f l).trans ?_
  rw [if_pos trivial]
  dsimp only
  cases (lfP l).1.isEmpty <;> rfl
def sEi : Spc U := alt isT sEiT sEiF
theorem sEi_ok : SpecOk Try.prog 18 sEi := alt_ok sEiT_ok sEiF_ok
end Go.Proofs.Ytmcflglkfgnbbaa.Nd

/- Where a list of numbers is parted so that the greater part is least: the first of several. Plain. -/
namespace Go.Proofs.Ytmcflglkfgnbbaa.Nd
open Go Go.RowKit Go.Proofs.Ytmcflglkfgnbbaa.Eng
set_option linter.unusedVariables false
/-- The greater part's size, when the list is parted at a place, with so many elements there left out. -/
def costP (z : List Int) (g i : Nat) : Int := max (z.take i).sum (z.drop (i + g)).sum
def stpP (c : Nat → Int) (s : Int × Int) (i : Nat) : Int × Int := cond (decide (s.1 < 0) || decide (c i < s.1)) (c i, (i : Int)) s
/-- The least cost, and its place, among the first k places. -/
def pkP (c : Nat → Int) : Nat → Int × Int
  | 0 => (-1, 0)
  | k + 1 => stpP c (pkP c k) (k + 1)
theorem pkP_ok {c : Nat → Int} (hc : ∀ i, 0 ≤ c i) : ∀ k, 1 ≤ k → ∃ a : Nat, pkP c k = (c a, (a : Int)) ∧ 1 ≤ a ∧ a ≤ k ∧ (∀ j, 1 ≤ j → j ≤ k → c a ≤ c j) ∧ ∀ j, 1 ≤ j → j < a → c a < c j := by
  intro k
  induction k with
  | zero => intro h; omega
  | succ k ih =>
    intro _
    by_cases hk : 1 ≤ k
    · obtain ⟨a, h1, h2, h3, h4, h5⟩ := ih hk
      show ∃ a : Nat, stpP c (pkP c k) (k + 1) = _ ∧ _
      rw [h1]
      unfold stpP
      dsimp only
      by_cases hlt : c (k + 1) < c a
      · have h0 := hc a
        rw [decide_eq_true hlt, Bool.or_true, cond_true]
        refine ⟨k + 1, rfl, by omega, by omega, fun j j1 j2 => ?_, fun j j1 j2 => ?_⟩
        · by_cases e : j = k + 1
          · subst e; omega
          · have := h4 j j1 (by omega); omega
        · have := h4 j j1 (by omega); omega
      · have h0 := hc a
        rw [decide_eq_false hlt, decide_eq_false (show ¬ c a < 0 by omega), Bool.or_false, cond_false]
        refine ⟨a, rfl, h2, by omega, fun j j1 j2 => ?_, h5⟩
        by_cases e : j = k + 1
        · subst e; omega
        · exact h4 j j1 (by omega)
    · obtain rfl : k = 0 := by omega
      refine ⟨1, rfl, by omega, by omega, fun j j1 j2 => ?_, fun j j1 j2 => by omega⟩
      obtain rfl : j = 1 := by omega
      exact Int.le_refl _
theorem sum_nonneg : ∀ {z : List Int}, (∀ x ∈ z, 0 ≤ x) → 0 ≤ z.sum
  | [], _ => Int.le_refl 0
  | x :: z, h => by
    have h1 := h x List.mem_cons_self
    have h2 := sum_nonneg (z := z) fun y hy => h y (List.mem_cons_of_mem _ hy)
    rw [List.sum_cons]
    omega
theorem costP_nonneg {z : List Int} (h : ∀ x ∈ z, 0 ≤ x) (g i : Nat) : 0 ≤ costP z g i := by
  have := sum_nonneg (z := z.take i) fun x hx => h x (List.mem_of_mem_take hx)
  unfold costP
  omega
theorem sum_take_succ {z : List Int} {i : Nat} {x : Int} (h : z[i]? = some x) : (z.take (i + 1)).sum = (z.take i).sum + x := by
  rw [List.take_add_one, h, List.sum_append]
  simp
theorem sum_drop_eq {z : List Int} (i : Nat) : (z.drop i).sum = z.sum - (z.take i).sum := by
  have := congrArg List.sum (List.take_append_drop i z)
  rw [List.sum_append] at this
  omega
theorem sum_drop_succ {z : List Int} {i : Nat} {x : Int} (h : z[i]? = some x) : (z.drop (i + 1)).sum = z.sum - (z.take i).sum - x := by
  rw [sum_drop_eq, sum_take_succ h]
  omega
theorem sum_le {z : List Int} {B : Int} : (∀ x ∈ z, x ≤ B) → z.sum ≤ B * z.length := by
  induction z with
  | nil => intro _; simp
  | cons x z ih =>
    intro h
    have h1 := h x List.mem_cons_self
    have h2 := ih fun y hy => h y (List.mem_cons_of_mem _ hy)
    rw [List.sum_cons, List.length_cons]
    have : B * ((z.length + 1 : Nat) : Int) = B * z.length + B := by
      rw [Int.natCast_add, Int.mul_add]
      simp
    omega
/-- Of two elements at least: the place is neither the first nor behind the last one. -/
theorem pk_place {z : List Int} {g : Nat} (h : ∀ x ∈ z, 0 ≤ x) (hl : 2 ≤ z.length) : ∃ a : Nat, pkP (costP z g) (z.length - 1) = (costP z g a, (a : Int)) ∧ 1 ≤ a ∧ a + 1 ≤ z.length ∧ (∀ j, 1 ≤ j → j + 1 ≤ z.length → costP z g a ≤ costP z g j) ∧ ∀ j, 1 ≤ j → j < a → costP z g a < costP z g j := by
  obtain ⟨a, h1, h2, h3, h4, h5⟩ := pkP_ok (c := costP z g) (costP_nonneg h g) (z.length - 1) (by omega)
  exact ⟨a, h1, h2, by omega, fun j j1 j2 => h4 j j1 (by omega), h5⟩
/-- With one left out, there is one behind it, if all together are so many that each is small beside them. -/
theorem pk_place1 {z : List Int} (h : ∀ x ∈ z, 0 ≤ x) {B : Int} (hB : ∀ x ∈ z, x ≤ B) (hs : 3 * B ≤ z.sum) (hl : 3 ≤ z.length) : ∀ a : Nat, 1 ≤ a → a + 1 ≤ z.length → (∀ j, 1 ≤ j → j < a → costP z 1 a < costP z 1 j) → a + 2 ≤ z.length := by
  intro a h1 h2 h5
  by_cases e : a + 2 ≤ z.length
  · exact e
  · exfalso
    obtain ⟨k, rfl⟩ : ∃ k, a = k + 1 := ⟨a - 1, by omega⟩
    have hk : k + 2 = z.length := by omega
    have h6 := h5 k (by omega) (by omega)
    obtain ⟨x, hx⟩ : ∃ x, z[k]? = some x := ⟨_, List.getElem?_eq_getElem (by omega)⟩
    obtain ⟨y, hy⟩ : ∃ y, z[k + 1]? = some y := ⟨_, List.getElem?_eq_getElem (by omega)⟩
    have x1 := hB x (List.mem_of_getElem? hx)
    have x0 := h x (List.mem_of_getElem? hx)
    have y1 := hB y (List.mem_of_getElem? hy)
    have t1 := sum_take_succ hx
    have t2 := sum_take_succ hy
    have t3 : (z.take (k + 1 + 1)).sum = z.sum := by rw [List.take_of_length_le (by omega)]
    have d1 : (z.drop (k + 1 + 1)).sum = 0 := by rw [List.drop_eq_nil_of_le (by omega)]; rfl
    have d0 := sum_drop_eq (z := z) (k + 1)
    unfold costP at h6
    rw [d1] at h6
    omega
/-- In the middle both parts are small. -/
theorem mid_cost {z : List Int} (h : ∀ x ∈ z, 0 ≤ x) {B T : Int} (hB : ∀ x ∈ z, x ≤ B) (hT : z.sum ≤ T) (g : Nat) (hl : 2 ≤ z.length) (hBT : B ≤ z.sum) : ∃ j : Nat, 1 ≤ j ∧ j + 1 ≤ z.length ∧ 2 * costP z g j ≤ T + B := by
  -- the first place at which the part ahead is half of all, less half of the greatest
  have key : ∀ n : Nat, n + 1 ≤ z.length → (∃ j : Nat, 1 ≤ j ∧ j + 1 ≤ z.length ∧ 2 * costP z g j ≤ T + B) ∨ 2 * (z.take n).sum < z.sum - B ∨ n = 0 := by
    intro n
    induction n with
    | zero => intro _; exact .inr (.inr rfl)
    | succ n ih =>
      intro hn
      rcases ih (by omega) with h1 | h1
      · exact .inl h1
      · by_cases hc : 2 * (z.take (n + 1)).sum < z.sum - B
        · exact .inr (.inl hc)
        · refine .inl ⟨n + 1, by omega, hn, ?_⟩
          obtain ⟨x, hx⟩ : ∃ x, z[n]? = some x := ⟨_, List.getElem?_eq_getElem (by omega)⟩
          have x1 := hB x (List.mem_of_getElem? hx)
          have x0 := h x (List.mem_of_getElem? hx)
          have t1 := sum_take_succ hx
          have d0 := sum_drop_eq (z := z) (n + 1 + g)
          have d1 : (z.take (n + 1)).sum ≤ (z.take (n + 1 + g)).sum := by
            have e : z.take (n + 1) = (z.take (n + 1 + g)).take (n + 1) := by rw [List.take_take, Nat.min_eq_left (by omega)]
            have e2 := sum_drop_eq (z := z.take (n + 1 + g)) (n + 1)
            have e3 := sum_nonneg (z := (z.take (n + 1 + g)).drop (n + 1)) fun y hy => h y (List.mem_of_mem_take (List.mem_of_mem_drop hy))
            rw [e]
            omega
          unfold costP
          rcases h1 with h1 | rfl
          · omega
          · simp only [List.take_zero, List.sum_nil] at t1
            omega
  rcases key (z.length - 1) (by omega) with h1 | h1 | h1
  · exact h1
  · exfalso
    obtain ⟨x, hx⟩ : ∃ x, z[z.length - 1]? = some x := ⟨_, List.getElem?_eq_getElem (by omega)⟩
    have x1 := hB x (List.mem_of_getElem? hx)
    have t1 := sum_take_succ hx
    rw [List.take_of_length_le (by omega)] at t1
    have t2 := sum_nonneg (z := z.take (z.length - 1)) fun y hy => h y (List.mem_of_mem_take hy)
    omega
  · omega
end Go.Proofs.Ytmcflglkfgnbbaa.Nd

/- How many bytes parts of a node take; where it is parted. -/
namespace Go.Proofs.Ytmcflglkfgnbbaa.Nd
open Go Go.RowKit Go.Proofs.Ytmcflglkfgnbbaa.Eng
set_option linter.unusedVariables false
set_option linter.unusedSimpArgs false
set_option maxRecDepth 20000
def an49 : Ann := ⟨fun | 0 => 229411 | 2 => 234882850 | _ => 0, fun | 0 => 51 | 2 => 528 | _ => 0, fun _ => [], false⟩
def an50 : Ann := ⟨fun | 0 => 906 | _ => 0, fun | 0 => 12 | _ => 0, fun _ => [], false⟩
def g49_S0 (z : List
  Int) (g : Int) (v2 : Int) (v5 : Int) : TS U := mkS 59
  [(0, TV.lst C.i64 z), (1, TV.v (Value.int IntKind.i64 g)), (5, TV.v (Value.int IntKind.i64 v2)), (15, TV.lst C.i64 z),
    (16, TV.v (Value.int IntKind.i64 (↑z.length : Int))), (17, TV.v (Value.int IntKind.i64 v5))]
  [] 0
theorem g49_e0 (lp : Lp
  U) (z : List
  Int) (g : Int) (N : Nat) (v2 : Int) (v5 : Int) : fnLoop X E0 an49 lp Try.f49 0 N.succ (g49_S0 z g v2 v5) =
  bif decide (v5 < (↑z.length : Int)) then
  (getI z v5).bind fun (z_1 : X.U.T C.i64) =>
    fnLoop X E0 an49 lp Try.f49 0 N (g49_S0 z g (IntKind.i64.wrap (v2 + z_1)) (IntKind.i64.wrap (v5 + 1)))
else
  some
    (Exit.exit 0,
      mkS 59 [(0, TV.lst C.i64 z), (1, TV.v (Value.int IntKind.i64 g)), (5, TV.v (Value.int IntKind.i64 v2))] []
        0) := by kernel_rfl
def S49 (z : List Int) (g s b a left i : Int) : TS U := mkS 59 [(1, .v (.int .i64 g)), (5, .v (.int .i64 s)), (8, .v (.int .i64 b)), (9, .v (.int .i64 a)), (10, .v (.int .i64 left)), (25, .lst .i64 z), (26, .v (.int .i64 z.length)), (27, .v (.int .i64 i))] [] 0
def Z49 (a : Int) : TS U := mkS 59 [(9, .v (.int .i64 a))] [] 0
theorem r49 (lp : Lp
  U) (N : Nat) (z : List
  Int) (g : Int) (s : Int) (b : Int) (a : Int) (left : Int) (i : Int) : (fnLoop X E0 an49 lp Try.f49 2 N.succ
  (S49 z g s b a left i)) =
  bif decide (i < (↑z.length : Int)) then
  (getI z i).bind fun (z_1 : X.U.T C.i64) =>
    bif decide (0 < i) then
      bif decide (0 < g) then
        bif decide (b < 0) then
          fnLoop X E0 an49 lp Try.f49 2 N
            (mkS 59
              [(1, TV.v (Value.int IntKind.i64 g)), (5, TV.v (Value.int IntKind.i64 s)),
                (8,
                  TV.v
                    (Value.int IntKind.i64
                      (if left < IntKind.i64.wrap (IntKind.i64.wrap (s - left) - z_1) then
                        IntKind.i64.wrap (IntKind.i64.wrap (s - left) - z_1)
                      else left))),
                (9, TV.v (Value.int IntKind.i64 i)), (10, TV.v (Value.int IntKind.i64 (IntKind.i64.wrap (left + z_1)))),
                (25, TV.lst C.i64 z), (26, TV.v (Value.int IntKind.i64 (↑z.length : Int))),
                (27, TV.v (Value.int IntKind.i64 (IntKind.i64.wrap (i + 1))))]
              [] 0)
        else
          bif
              decide
                ((if left < IntKind.i64.wrap (IntKind.i64.wrap (s - left) - z_1) then
                    IntKind.i64.wrap (IntKind.i64.wrap (s - left) - z_1)
                  else left) <
                  b) then
            fnLoop X E0 an49 lp Try.f49 2 N
              (mkS 59
                [(1, TV.v (Value.int IntKind.i64 g)), (5, TV.v (Value.int IntKind.i64 s)),
                  (8,
                    TV.v
                      (Value.int IntKind.i64
                        (if left < IntKind.i64.wrap (IntKind.i64.wrap (s - left) - z_1) then
                          IntKind.i64.wrap (IntKind.i64.wrap (s - left) - z_1)
                        else left))),
                  (9, TV.v (Value.int IntKind.i64 i)),
                  (10, TV.v (Value.int IntKind.i64 (IntKind.i64.wrap (left + z_1)))), (25, TV.lst C.i64 z),
                  (26, TV.v (Value.int IntKind.i64 (↑z.length : Int))),
                  (27, TV.v (Value.int IntKind.i64 (IntKind.i64.wrap (i + 1))))]
                [] 0)
          else
            fnLoop X E0 an49 lp Try.f49 2 N
              (mkS 59
                [(1, TV.v (Value.int IntKind.i64 g)), (5, TV.v (Value.int IntKind.i64 s)),
                  (8, TV.v (Value.int IntKind.i64 b)), (9, TV.v (Value.int IntKind.i64 a)),
                  (10, TV.v (Value.int IntKind.i64 (IntKind.i64.wrap (left + z_1)))), (25, TV.lst C.i64 z),
                  (26, TV.v (Value.int IntKind.i64 (↑z.length : Int))),
                  (27, TV.v (Value.int IntKind.i64 (IntKind.i64.wrap (i + 1))))]
                [] 0)
      else
        bif decide (b < 0) then
          fnLoop X E0 an49 lp Try.f49 2 N
            (mkS 59
              [(1, TV.v (Value.int IntKind.i64 g)), (5, TV.v (Value.int IntKind.i64 s)),
                (8,
                  TV.v
                    (Value.int IntKind.i64
                      (if left < IntKind.i64.wrap (s - left) then IntKind.i64.wrap (s - left) else left))),
                (9, TV.v (Value.int IntKind.i64 i)), (10, TV.v (Value.int IntKind.i64 (IntKind.i64.wrap (left + z_1)))),
                (25, TV.lst C.i64 z), (26, TV.v (Value.int IntKind.i64 (↑z.length : Int))),
                (27, TV.v (Value.int IntKind.i64 (IntKind.i64.wrap (i + 1))))]
              [] 0)
        else
          bif decide ((if left < IntKind.i64.wrap (s - left) then IntKind.i64.wrap (s - left) else left) < b) then
            fnLoop X E0 an49 lp Try.f49 2 N
              (mkS 59
                [(1, TV.v (Value.int IntKind.i64 g)), (5, TV.v (Value.int IntKind.i64 s)),
                  (8,
                    TV.v
                      (Value.int IntKind.i64
                        (if left < IntKind.i64.wrap (s - left) then IntKind.i64.wrap (s - left) else left))),
                  (9, TV.v (Value.int IntKind.i64 i)),
                  (10, TV.v (Value.int IntKind.i64 (IntKind.i64.wrap (left + z_1)))), (25, TV.lst C.i64 z),
                  (26, TV.v (Value.int IntKind.i64 (↑z.length : Int))),
                  (27, TV.v (Value.int IntKind.i64 (IntKind.i64.wrap (i + 1))))]
                [] 0)
          else
            fnLoop X E0 an49 lp Try.f49 2 N
              (mkS 59
                [(1, TV.v (Value.int IntKind.i64 g)), (5, TV.v (Value.int IntKind.i64 s)),
                  (8, TV.v (Value.int IntKind.i64 b)), (9, TV.v (Value.int IntKind.i64 a)),
                  (10, TV.v (Value.int IntKind.i64 (IntKind.i64.wrap (left + z_1)))), (25, TV.lst C.i64 z),
                  (26, TV.v (Value.int IntKind.i64 (↑z.length : Int))),
                  (27, TV.v (Value.int IntKind.i64 (IntKind.i64.wrap (i + 1))))]
                [] 0)
    else
      fnLoop X E0 an49 lp Try.f49 2 N
        (mkS 59
          [(1, TV.v (Value.int IntKind.i64 g)), (5, TV.v (Value.int IntKind.i64 s)),
            (8, TV.v (Value.int IntKind.i64 b)), (9, TV.v (Value.int IntKind.i64 a)),
            (10, TV.v (Value.int IntKind.i64 (IntKind.i64.wrap (left + z_1)))), (25, TV.lst C.i64 z),
            (26, TV.v (Value.int IntKind.i64 (↑z.length : Int))),
            (27, TV.v (Value.int IntKind.i64 (IntKind.i64.wrap (i + 1))))]
          [] 0)
else some (Exit.exit 2, mkS 59 [(9, TV.v (Value.int IntKind.i64 a))] [] 0) := by kernel_rfl
def S50 (n : N3) (a : TV U) (r : List (TO U)) (i : Int) : TS U := mkS 41 [(1, .ref 0 0 0), (3, a), (7, .lst .str n.K), (8, .v (.int .i64 n.K.length)), (9, .v (.int .i64 i))] ([n.ob] ++ r) 0
theorem r50n (lp : Lp U) (N : Nat) (n : N3) (i : Int) : (fnLoop X Ep an50 lp Try.f50 0 N.succ (S50 n nlv [] i)) =
  bif decide (i < (↑n.K.length : Int)) then
  (getI n.K i).bind fun (z : X.U.T C.str) =>
    bif n.L then
      (getI n.V i).bind fun (z_1 : X.U.T C.t33) =>
        if PEnt (ByteArray.size z) z_1.Data.size then
          if 1 * 8 ≤ 140737488355328 then
            fnLoop X Ep an50 lp Try.f50 0 N
              (mkS 41
                [(1, TV.ref 0 0 0), (3, TV.full 1), (7, TV.lst C.str n.K),
                  (8, TV.v (Value.int IntKind.i64 (↑n.K.length : Int))),
                  (9, TV.v (Value.int IntKind.i64 (IntKind.i64.wrap (i + 1))))]
                [n.ob, TO.row C.i64 [(↑(entB z z_1).size : Int)] false] 0)
          else none
        else none
    else
      (getI n.I (IntKind.i64.wrap (i + 1))).bind fun (z_1 : X.U.T C.i64) =>
        if Sz (ByteArray.size z) then
          if 1 * 8 ≤ 140737488355328 then
            fnLoop X Ep an50 lp Try.f50 0 N
              (mkS 41
                [(1, TV.ref 0 0 0), (3, TV.full 1), (7, TV.lst C.str n.K),
                  (8, TV.v (Value.int IntKind.i64 (↑n.K.length : Int))),
                  (9, TV.v (Value.int IntKind.i64 (IntKind.i64.wrap (i + 1))))]
                [n.ob, TO.row C.i64 [(↑(lnkB z z_1).size : Int)] false] 0)
          else none
        else none
else some (Exit.exit 0, mkS 41 [(3, TV.v (Value.slice none 0 0))] [] 0) := by kernel_rfl
theorem r50c (lp : Lp
  U) (N : Nat) (n : N3) (xs : List
  Int) (i : Int) : (fnLoop X Ep an50 lp Try.f50 0 N.succ (S50 n (TV.full 1) [TO.row C.i64 xs false] i)) =
  bif decide (i < (↑n.K.length : Int)) then
  (getI n.K i).bind fun (z : X.U.T C.str) =>
    bif n.L then
      (getI n.V i).bind fun (z_1 : X.U.T C.t33) =>
        if PEnt (ByteArray.size z) z_1.Data.size then
          if (xs.length + 1) * 8 ≤ 140737488355328 then
            fnLoop X Ep an50 lp Try.f50 0 N
              (mkS 41
                [(1, TV.ref 0 0 0), (3, TV.full 1), (7, TV.lst C.str n.K),
                  (8, TV.v (Value.int IntKind.i64 (↑n.K.length : Int))),
                  (9, TV.v (Value.int IntKind.i64 (IntKind.i64.wrap (i + 1))))]
                [n.ob, TO.row C.i64 (xs ++ [(↑(entB z z_1).size : Int)]) false] 0)
          else none
        else none
    else
      (getI n.I (IntKind.i64.wrap (i + 1))).bind fun (z_1 : X.U.T C.i64) =>
        if Sz (ByteArray.size z) then
          if (xs.length + 1) * 8 ≤ 140737488355328 then
            fnLoop X Ep an50 lp Try.f50 0 N
              (mkS 41
                [(1, TV.ref 0 0 0), (3, TV.full 1), (7, TV.lst C.str n.K),
                  (8, TV.v (Value.int IntKind.i64 (↑n.K.length : Int))),
                  (9, TV.v (Value.int IntKind.i64 (IntKind.i64.wrap (i + 1))))]
                [n.ob, TO.row C.i64 (xs ++ [(↑(lnkB z z_1).size : Int)]) false] 0)
          else none
        else none
else some (Exit.exit 0, mkS 41 [(3, TV.full 0)] [TO.row C.i64 xs false] 0) := by kernel_rfl
/-! ### Parted -/
def Z49a (z : List Int) (g : Int) : TS U := mkS 59 [(0, .lst .i64 z), (1, .v (.int .i64 g)), (5, .v (.int .i64 z.sum))] [] 0
def P49 (z : List Int) (g : Int) : Prop := (∀ x ∈ z, 0 ≤ x ∧ x ≤ 1000) ∧ z.length ≤ 1000 ∧ (g = 0 ∨ g = 1)
noncomputable instance (z : List Int) (g : Int) : Decidable (P49 z g) := Classical.propDecidable _
theorem P49.take {z : List Int} {g : Int} (h : P49 z g) (k : Nat) : 0 ≤ (z.take k).sum ∧ (z.take k).sum ≤ z.sum ∧ z.sum ≤ 1000000 := by
  obtain ⟨h1, h2, _⟩ := h
  have a := sum_nonneg (z := z.take k) fun x hx => (h1 x (List.mem_of_mem_take hx)).1
  have b := sum_nonneg (z := z.drop k) fun x hx => (h1 x (List.mem_of_mem_drop hx)).1
  have c := sum_le (z := z) (B := 1000) fun x hx => (h1 x hx).2
  rw [sum_drop_eq] at b
  omega
theorem rounds49a (lp : Lp U) {z : List Int} {g : Int} (h : P49 z g) : ∀ (m k : Nat), k + m = z.length → fnLoop X E0 an49 lp Try.f49 0 (m + 1) (g49_S0 z g (z.take k).sum k) = some (.exit 0, Z49a z g) := by
  intro m
  induction m with
  | zero =>
    intro k hk
    rw [g49_e0, decide_eq_false (by omega), List.take_of_length_le (by omega)]
    rfl
  | succ m ih =>
    intro k hk
    have hl := h.2.1
    obtain ⟨x, hx, hx2⟩ := getE (l := z) (v := (k : Int)) (by omega) (by omega)
    have hx3 : z[k]? = some x := hx2
    have hb := h.1 x (List.mem_of_getElem? hx3)
    have ht := h.take k
    rw [g49_e0, decide_eq_true (by omega), hx, cond_true, Option.bind_some, wr (a := (z.take k).sum + x) (by omega) (by omega), wr (a := (k : Int) + 1) (by omega) (by omega), ← sum_take_succ hx3]
    exact ih (k + 1) (by omega)
theorem mx_eq (a b : Int) : (if a < b then b else a) = max a b := by omega
def nb49 (g s b a left i x : Int) : Int × Int := cond (decide (0 < i)) (cond (decide (b < 0) || decide ((if left < (cond (decide (0 < g)) (IntKind.i64.wrap (IntKind.i64.wrap (s - left) - x)) (IntKind.i64.wrap (s - left))) then cond (decide (0 < g)) (IntKind.i64.wrap (IntKind.i64.wrap (s - left) - x)) (IntKind.i64.wrap (s - left)) else left) < b))
  ((if left < (cond (decide (0 < g)) (IntKind.i64.wrap (IntKind.i64.wrap (s - left) - x)) (IntKind.i64.wrap (s - left))) then cond (decide (0 < g)) (IntKind.i64.wrap (IntKind.i64.wrap (s - left) - x)) (IntKind.i64.wrap (s - left)) else left), i) (b, a)) (b, a)
theorem round49 (lp : Lp U) (N : Nat) (z : List Int) (g s b a left i x : Int) (h1 : decide (i < (z.length : Int)) = true) (h2 : getI z i = some x) : fnLoop X E0 an49 lp Try.f49 2 N.succ (S49 z g s b a left i) = fnLoop X E0 an49 lp Try.f49 2 N (S49 z g s (nb49 g s b a left i x).1 (nb49 g s b a left i x).2 (IntKind.i64.wrap (left + x)) (IntKind.i64.wrap (i + 1))) := by
  rw [r49, h1, h2, cond_true, Option.bind_some]
  unfold nb49
  generalize IntKind.i64.wrap (left + x) = l2
  generalize IntKind.i64.wrap (i + 1) = i2
  generalize IntKind.i64.wrap (s - left) = u
  generalize IntKind.i64.wrap (u - x) = w
  generalize decide (0 < i) = p
  generalize decide (0 < g) = q
  cases p
  · rfl
  · cases q
    · simp only [cond_true, cond_false]
      generalize (if left < u then u else left) = m
      cases decide (b < 0)
      · cases decide (m < b) <;> rfl
      · rfl
    · simp only [cond_true, cond_false]
      generalize (if left < w then w else left) = m
      cases decide (b < 0)
      · cases decide (m < b) <;> rfl
      · rfl
theorem nb49_eq {z : List Int} {g : Nat} (hg : g ≤ 1) (h : P49 z g) {k : Nat} {x : Int} (hx3 : z[k]? = some x) : nb49 g z.sum (pkP (costP z g) (k - 1)).1 (pkP (costP z g) (k - 1)).2 (z.take k).sum k x = pkP (costP z g) k := by
  have hb := h.1 x (List.mem_of_getElem? hx3)
  have ht := h.take k
  unfold nb49
  by_cases hk0 : 0 < k
  · have hstp : pkP (costP z g) k = stpP (costP z g) (pkP (costP z g) (k - 1)) k := by
      obtain ⟨j, rfl⟩ : ∃ j, k = j + 1 := ⟨k - 1, by omega⟩
      rfl
    have hcost : costP z g k = (if (z.take k).sum < z.sum - (z.take k).sum - (if g = 0 then 0 else x) then z.sum - (z.take k).sum - (if g = 0 then 0 else x) else (z.take k).sum) := by
      rw [mx_eq]
      unfold costP
      by_cases e : g = 0
      · subst e; rw [if_pos rfl, Nat.add_zero, sum_drop_eq]; congr 1; omega
      · obtain rfl : g = 1 := by omega
        rw [if_neg (by decide), sum_drop_succ hx3]
    have hw : cond (decide ((0 : Int) < (g : Int))) (IntKind.i64.wrap (IntKind.i64.wrap (z.sum - (z.take k).sum) - x)) (IntKind.i64.wrap (z.sum - (z.take k).sum)) = z.sum - (z.take k).sum - (if g = 0 then 0 else x) := by
      rw [wr (a := z.sum - (z.take k).sum) (by omega) (by omega), wr (a := z.sum - (z.take k).sum - x) (by omega) (by omega)]
      by_cases e : g = 0
      · subst e; rw [if_pos rfl, Int.sub_zero]; rfl
      · obtain rfl : g = 1 := by omega
        rw [if_neg (by decide)]; rfl
    rw [decide_eq_true (show (0 : Int) < (k : Int) by omega), cond_true, hw, ← hcost, hstp]
    rfl
  · obtain rfl : k = 0 := by omega
    rfl
theorem rounds49b (lp : Lp U) {z : List Int} (g : Nat) (hg : g ≤ 1) (h : P49 z g) : ∀ (m k : Nat), k + m = z.length → fnLoop X E0 an49 lp Try.f49 2 (m + 1) (S49 z g z.sum (pkP (costP z g) (k - 1)).1 (pkP (costP z g) (k - 1)).2 (z.take k).sum k) = some (.exit 2, Z49 (pkP (costP z g) (z.length - 1)).2) := by
  intro m
  induction m with
  | zero =>
    intro k hk
    obtain rfl : k = z.length := hk
    rw [r49, decide_eq_false (by omega)]
    rfl
  | succ m ih =>
    intro k hk
    have hl := h.2.1
    obtain ⟨x, hx, hx2⟩ := getE (l := z) (v := (k : Int)) (by omega) (by omega)
    have hx3 : z[k]? = some x := hx2
    have hb := h.1 x (List.mem_of_getElem? hx3)
    have ht := h.take k
    have ih := ih (k + 1) (by omega)
    rw [Nat.add_sub_cancel, sum_take_succ hx3] at ih
    rw [round49 lp (m + 1) z g z.sum _ _ _ k x (decide_eq_true (by omega)) hx, nb49_eq hg h hx3, wr (a := (z.take k).sum + x) (by omega) (by omega), wr (a := (k : Int) + 1) (by omega) (by omega)]
    exact ih
def dl49a (s : TS U) : Option (List Int × Int × Int × List Int × Int × Int) := match told s 59 [0, 1, 5, 15, 16, 17] 0, s.objs with
  | some [a0, a1, a2, a3, a4, a5], [] =>
    match a0 with
    | .lst .i64 z =>
      match a1 with
      | .v (.int .i64 g) =>
        match a2 with
        | .v (.int .i64 y) =>
          match a3 with
          | .lst .i64 z2 =>
            match a4 with
            | .v (.int .i64 n) =>
              match a5 with
              | .v (.int .i64 i) =>
                some (z, g, y, z2, n, i)
              | _ => none
            | _ => none
          | _ => none
        | _ => none
      | _ => none
    | _ => none
  | _, _ => none
theorem dl49a_ok {s : TS U} {z : List Int} {g : Int} {y : Int} {z2 : List Int} {n : Int} {i : Int} (h : dl49a s = some (z, g, y, z2, n, i)) : s = mkS (U := U) 59 ([0, 1, 5, 15, 16, 17].zip ([.lst .i64 z, .v (.int .i64 g), .v (.int .i64 y), .lst .i64 z2, .v (.int .i64 n), .v (.int .i64 i)] : List (TV U))) ([] : List (TO U)) 0 := by
  unfold dl49a at h
  split at h <;> try (cases h; done)
  rename_i ht ho
  have hs := told_ok ht
  rw [ho] at hs
  repeat' split at h
  all_goals first | (cases h; done) | (cases h; exact hs)
def dl49b (s : TS U) : Option (Int × Int × Int × Int × Int × List Int × Int × Int) := match told s 59 [1, 5, 8, 9, 10, 25, 26, 27] 0, s.objs with
  | some [a0, a1, a2, a3, a4, a5, a6, a7], [] =>
    match a0 with
    | .v (.int .i64 g) =>
      match a1 with
      | .v (.int .i64 y) =>
        match a2 with
        | .v (.int .i64 b) =>
          match a3 with
          | .v (.int .i64 a) =>
            match a4 with
            | .v (.int .i64 left) =>
              match a5 with
              | .lst .i64 z =>
                match a6 with
                | .v (.int .i64 n) =>
                  match a7 with
                  | .v (.int .i64 i) =>
                    some (g, y, b, a, left, z, n, i)
                  | _ => none
                | _ => none
              | _ => none
            | _ => none
          | _ => none
        | _ => none
      | _ => none
    | _ => none
  | _, _ => none
theorem dl49b_ok {s : TS U} {g : Int} {y : Int} {b : Int} {a : Int} {left : Int} {z : List Int} {n : Int} {i : Int} (h : dl49b s = some (g, y, b, a, left, z, n, i)) : s = mkS (U := U) 59 ([1, 5, 8, 9, 10, 25, 26, 27].zip ([.v (.int .i64 g), .v (.int .i64 y), .v (.int .i64 b), .v (.int .i64 a), .v (.int .i64 left), .lst .i64 z, .v (.int .i64 n), .v (.int .i64 i)] : List (TV U))) ([] : List (TO U)) 0 := by
  unfold dl49b at h
  split at h <;> try (cases h; done)
  rename_i ht ho
  have hs := told_ok ht
  rw [ho] at hs
  repeat' split at h
  all_goals first | (cases h; done) | (cases h; exact hs)
def Q49a (z z2 : List Int) (g s n i : Int) : Prop := P49 z g ∧ z2 = z ∧ s = 0 ∧ n = z.length ∧ i = 0
noncomputable instance (z z2 : List Int) (g s n i : Int) : Decidable (Q49a z z2 g s n i) := Classical.propDecidable _
def Q49b (z : List Int) (g s b a left n i : Int) : Prop := P49 z g ∧ s = z.sum ∧ b = -1 ∧ a = 0 ∧ left = 0 ∧ n = z.length ∧ i = 0
noncomputable instance (z : List Int) (g s b a left n i : Int) : Decidable (Q49b z g s b a left n i) := Classical.propDecidable _
def atM (z : List Int) (g : Int) : Int := (pkP (costP z g.toNat) (z.length - 1)).2
noncomputable def lc49a : LC U := .of dl49a (fun (z, g, s, z2, n, i) => Q49a z z2 g s n i) (.exit 0) fun (z, g, s, z2, n, i) => Z49a z g
noncomputable def lc49b : LC U := .of dl49b (fun (g, s, b, a, left, z, n, i) => Q49b z g s b a left n i) (.exit 2) fun (g, s, b, a, left, z, n, i) => Z49 (atM z g)
noncomputable def lp49 : Lp U := lpL [(0, lc49a), (2, lc49b)]
theorem lp49_ok : ∀ c, Try.f49.body = some c → LpOk X E0 an49 lp49 (loops c 0) := lpL_ok (by kernel_rfl) fun b L hm st p hs => by
  cases hm with
  | head =>
    obtain ⟨⟨z, g, s, z2, n, i⟩, hx, ⟨h, rfl, rfl, rfl, rfl⟩, rfl⟩ := LC.of_some hs
    obtain rfl := dl49a_ok hx
    exact ⟨_, rounds49a _ h _ 0 (Nat.zero_add _)⟩
  | tail _ hm => cases hm with
    | head =>
      obtain ⟨⟨g, s, b, a, left, z, n, i⟩, hx, ⟨h, rfl, rfl, rfl, rfl, rfl, rfl⟩, rfl⟩ := LC.of_some hs
      obtain rfl := dl49b_ok hx
      have hg : g = ((g.toNat : Nat) : Int) ∧ g.toNat ≤ 1 := by
        rcases h.2.2 with rfl | rfl <;> exact ⟨rfl, by decide⟩
      obtain ⟨k, hk⟩ : ∃ k, k = g.toNat := ⟨_, rfl⟩
      rw [← hk] at hg
      obtain ⟨rfl, h1⟩ := hg
      refine ⟨_, (rounds49b _ k h1 h z.length 0 (Nat.zero_add _)).trans ?_⟩
      show some (_, Z49 _) = some (_, Z49 (atM z k))
      unfold atM
      rw [← hk]
    | tail _ hm => cases hm
theorem e49 (z : List
  Int) (g : Int) : (evFn X E0 an49 lp49 Try.f49 [] [TV.lst C.i64 z, TV.v (Value.int IntKind.i64 g)]
  fun (o : List (TO X.U)) (v : TV X.U) => some (o, v)) =
  if Q49a z z g 0 (↑z.length : Int) 0 then
  if Q49b z g z.sum (-1) 0 0 (↑z.length : Int) 0 then some ([], TV.v (Value.int IntKind.i64 (atM z g))) else none
else none := by kernel_rfl
def d49 (objs : List (TO U)) (args : List (TV U)) : Option (List Int × Int) := match objs, args with
  | [], [a0, a1] =>
    match a0 with
    | .lst .i64 z =>
      match a1 with
      | .v (.int .i64 g) =>
        some (z, g)
      | _ => none
    | _ => none
  | _, _ => none
theorem d49_ok {objs : List (TO U)} {args : List (TV U)} {z : List Int} {g : Int} (h : d49 objs args = some (z, g)) : objs = [] ∧ args = [.lst .i64 z, .v (.int .i64 g)] := by
  unfold d49 at h
  repeat' split at h
  all_goals first | (cases h; done) | (cases h; exact ⟨rfl, rfl⟩)
noncomputable def sMid : Spc U := .of d49 (fun (z, g) => P49 z g) (fun _ => []) fun (z, g) => .v (.int .i64 (atM z g))
theorem sMid_ok : SpecOk Try.prog 49 sMid := by
  refine fn_ok X_ok mixed E0_ok an49 lp49 Try.func49 (by kernel_rfl) (by kernel_rfl) lp49_ok fun objs args x hx hp => ?_
  obtain ⟨z, g⟩ := x
  obtain ⟨rfl, rfl⟩ := d49_ok hx
  refine (e49 z g).trans ?_
  rw [if_pos (show Q49a z z g 0 z.length 0 from ⟨hp, rfl, rfl, rfl, rfl⟩), if_pos (show Q49b z g z.sum (-1) 0 0 z.length 0 from ⟨hp, rfl, rfl, rfl, rfl, rfl, rfl⟩)]
end Go.Proofs.Ytmcflglkfgnbbaa.Nd

/- How many bytes each part of a node takes; where the document parts it. -/
namespace Go.Proofs.Ytmcflglkfgnbbaa.Nd
open Go Go.RowKit Go.Proofs.Ytmcflglkfgnbbaa.Eng
set_option linter.unusedVariables false
set_option linter.unusedSimpArgs false
set_option maxRecDepth 20000
def N3.szs (n : N3) : List Int := n.pcs.map fun p => (p.size : Int)
def N3.Sm (n : N3) : Prop := n.Ok ∧ (∀ p ∈ n.pcs, p.size ≤ 1000) ∧ n.K.length ≤ 1000
noncomputable instance (n : N3) : Decidable n.Sm := Classical.propDecidable _
def Z50 (xs : List Int) : TS U := mkS 41 [(3, nvF 0 xs)] (nvR .i64 xs) 0
theorem rounds50 (lp : Lp U) (n : N3) (h : n.Ok) : fnLoop X Ep an50 lp Try.f50 0 (n.pcs.length + 1) (S50 n nlv [] 0) = some (.exit 0, Z50 n.szs) := by
  have hl := h.pcs
  have hk := h.len
  have key := fold_rounds (fnl := fnLoop X Ep an50 lp Try.f50 0) (fun (g : List Int) v => S50 n (nvF 1 g) (nvR .i64 g) v) (fun g => ((.exit 0, Z50 g) : Exit × TS U)) n.pcs (fun g v => (g.length : Int) = v) (fun g (z : ByteArray) => g ++ [(z.size : Int)]) (fun N g v z hI h0 h1 hz => ?_) (fun N g v hI h1 => ?_) n.pcs.length [] 0 rfl (Int.le_refl _) (by omega)
  · refine Eq.trans key ?_
    have : ∀ (l : List ByteArray) (g : List Int), l.foldl (fun g (z : ByteArray) => g ++ [(z.size : Int)]) g = g ++ l.map fun p => (p.size : Int) := by
      intro l
      induction l with
      | nil => intro g; simp
      | cons x l ih => intro g; rw [List.foldl_cons, ih]; simp
    show some (_, Z50 _) = _
    rw [this]
    rfl
  · refine ⟨?_, by rw [List.length_append]; simp; omega⟩
    have hw : IntKind.i64.wrap (v + 1) = v + 1 := wr (by omega) (by omega)
    have hlen : (g.length + 1) * 8 ≤ 140737488355328 := by omega
    cases hL : n.L with
    | true =>
      have h' : Pn true n.K n.V n.I := by have := h; unfold N3.Ok at this; rw [hL] at this; exact this
      have hz' : getI (pcs true n.K n.V n.I) v = some z := by have := hz; unfold N3.pcs at this; rw [hL] at this; exact this
      obtain ⟨k, w, e1, e2, rfl, e3, e4⟩ := pcs_leaf h' hz'
      cases g with
      | nil =>
        refine (r50n lp N n v).trans ?_
        rw [decide_eq_true (by omega), e1, e2, hL]
        simp only [cond_true, Option.bind_some]
        rw [if_pos e3, if_pos (by decide), hw]
        rfl
      | cons x g =>
        refine (r50c lp N n (x :: g) v).trans ?_
        rw [decide_eq_true (by omega), e1, e2, hL]
        simp only [cond_true, Option.bind_some]
        rw [if_pos e3, if_pos hlen, hw]
        rfl
    | false =>
      have h' : Pn false n.K n.V n.I := by have := h; unfold N3.Ok at this; rw [hL] at this; exact this
      have hz' : getI (pcs false n.K n.V n.I) v = some z := by have := hz; unfold N3.pcs at this; rw [hL] at this; exact this
      obtain ⟨k, w, e1, e2, rfl, e3, e4⟩ := pcs_inner h' hz'
      cases g with
      | nil =>
        refine (r50n lp N n v).trans ?_
        rw [decide_eq_true (by omega), e1, hL, hw, e2]
        simp only [cond_true, cond_false, Option.bind_some]
        rw [if_pos e3, if_pos (by decide)]
        rfl
      | cons x g =>
        refine (r50c lp N n (x :: g) v).trans ?_
        rw [decide_eq_true (by omega), e1, hL, hw, e2]
        simp only [cond_true, cond_false, Option.bind_some]
        rw [if_pos e3, if_pos hlen]
        rfl
  · cases g with
    | nil => refine (r50n lp N n v).trans ?_; rw [decide_eq_false (by omega)]; rfl
    | cons x g => refine (r50c lp N n (x :: g) v).trans ?_; rw [decide_eq_false (by omega)]; rfl
def dl50 (s : TS U) : Option (N3 × List ByteArray × Int × Int) := match told s 41 [1, 3, 7, 8, 9] 0, s.objs with
  | some [a0, a1, a2, a3, a4], [o0] =>
    match o0 with
    | .cells [q0, q1, q2, q3] false =>
      match q0 with
      | .v (.bool n_L) =>
        match q1 with
        | .lst .str n_K =>
          match q2 with
          | .lst .t33 n_V =>
            match q3 with
            | .lst .i64 n_I =>
              match a0 with
              | .ref 0 0 0 =>
                match a1 with
                | .v (.slice none 0 0) =>
                  match a2 with
                  | .lst .str ks =>
                    match a3 with
                    | .v (.int .i64 c) =>
                      match a4 with
                      | .v (.int .i64 v) =>
                        some ((⟨n_L, n_K, n_V, n_I⟩ : N3), ks, c, v)
                      | _ => none
                    | _ => none
                  | _ => none
                | _ => none
              | _ => none
            | _ => none
          | _ => none
        | _ => none
      | _ => none
    | _ => none
  | _, _ => none
theorem dl50_ok {s : TS U} {n : N3} {ks : List ByteArray} {c : Int} {v : Int} (h : dl50 s = some (n, ks, c, v)) : s = mkS (U := U) 41 ([1, 3, 7, 8, 9].zip ([.ref 0 0 0, .v (.slice none 0 0), .lst .str ks, .v (.int .i64 c), .v (.int .i64 v)] : List (TV U))) ([n.ob] : List (TO U)) 0 := by
  unfold dl50 at h
  split at h <;> try (cases h; done)
  rename_i ht ho
  have hs := told_ok ht
  rw [ho] at hs
  repeat' split at h
  all_goals first | (cases h; done) | (cases h; exact hs)
def P50 (n : N3) (ks : List ByteArray) (c v : Int) : Prop := n.Ok ∧ ks = n.K ∧ c = n.K.length ∧ v = 0
noncomputable instance (n : N3) (ks : List ByteArray) (c v : Int) : Decidable (P50 n ks c v) := Classical.propDecidable _
noncomputable def lc50 : LC U := .of2 dl50 (fun (n, ks, c, v) => P50 n ks c v) (fun (n, ks, c, v) => n.szs.isEmpty) (.exit 0) (fun _ => mkS 41 [(3, nlv)] [] 0) (.exit 0) fun (n, ks, c, v) => mkS 41 [(3, .full 0)] [.row .i64 n.szs false] 0
noncomputable def lp50 : Lp U := lpL [(0, lc50)]
theorem lp50_ok : ∀ c, Try.f50.body = some c → LpOk X Ep an50 lp50 (loops c 0) := lpL_ok (by kernel_rfl) fun b L hm st p hs => by
  cases hm with
  | head =>
    obtain ⟨⟨n, ks, c, v⟩, hx, ⟨h, rfl, rfl, rfl⟩, rfl⟩ := LC.of2_some hs
    obtain rfl := dl50_ok hx
    refine ⟨_, (rounds50 _ n h).trans ?_⟩
    dsimp only
    unfold Z50
    cases n.szs with
    | nil => rfl
    | cons x l => rfl
  | tail _ hm => cases hm
def wkI : Lw U := .l .i64
theorem e50 (n : N3) : (evFn X Ep an50 lp50 Try.f50 [] [n.tv] fun (o : List (TO X.U)) (v : TV X.U) =>
  some (o, wkI.f v)) =
  if P50 n n.K (↑n.K.length : Int) 0 then
  bif n.szs.isEmpty then some ([], TV.lst C.i64 []) else some ([], TV.lst C.i64 n.szs)
else none := by kernel_rfl
def dN3s (objs : List (TO U)) (args : List (TV U)) : Option (N3) := match objs, args with
  | [], [a0] =>
    match a0 with
    | .agg [q0, q1, q2, q3] =>
      match q0 with
      | .v (.bool n_L) =>
        match q1 with
        | .lst .str n_K =>
          match q2 with
          | .lst .t33 n_V =>
            match q3 with
            | .lst .i64 n_I =>
              some (⟨n_L, n_K, n_V, n_I⟩ : N3)
            | _ => none
          | _ => none
        | _ => none
      | _ => none
    | _ => none
  | _, _ => none
theorem dN3s_ok {objs : List (TO U)} {args : List (TV U)} {n : N3} (h : dN3s objs args = some n) : objs = [] ∧ args = [n.tv] := by
  unfold dN3s at h
  repeat' split at h
  all_goals first | (cases h; done) | (cases h; exact ⟨rfl, rfl⟩)
noncomputable def sSzs0 : Spc U := .of dN3s (fun n => n.Ok) (fun _ => []) fun n => .lst .i64 n.szs
theorem sSzs0_ok : SpecOk Try.prog 50 sSzs0 := by
  refine fn_okw wkI X_ok mixed Ep_ok an50 lp50 Try.func50 (by kernel_rfl) (by kernel_rfl) lp50_ok fun objs args n hx hp => ?_
  obtain ⟨rfl, rfl⟩ := dN3s_ok hx
  refine (e50 n).trans ?_
  rw [if_pos (show P50 n n.K n.K.length 0 from ⟨hp, rfl, rfl, rfl⟩)]
  cases n.szs with
  | nil => rfl
  | cons x l => rfl
noncomputable def sSzs : Spc U := sSzs0.wkA [.a [.no, .l .str, .l .t33, .l .i64]]
theorem sSzs_ok : SpecOk Try.prog 50 sSzs := sSzs0_ok.wkA _
/-! ### The document's -/
def an51 : Ann := ⟨fun | 0 => 396 | _ => 0, fun | 0 => 192 | _ => 0, fun _ => [], false⟩
def an22 : Ann := ⟨fun | 0 => 58 | _ => 0, fun | 0 => 20 | _ => 0, fun _ => [], false⟩
noncomputable def E51 : FuncId → Option (Spc U)
  | 59 => some sPc
  | _ => none
theorem E51_ok : ∀ f S, E51 f = some S → SpecOk Try.prog f S := fun f S h => by
  unfold E51 at h
  split at h
  · cases h; exact sPc_ok
  · cases h
def S51 (n : N4) (b y i : Int) : TS U := mkS 22 [(2, .v (.int .i64 b)), (3, .ref 0 0 0), (7, .v (.int .i64 y)), (8, .v (.int .i64 i))] [n.ob] 0
def Z51 (y : Int) : TS U := mkS 22 [(7, .v (.int .i64 y))] [] 0
theorem r51 (lp : Lp
  U) (N : Nat) (n : N4) (b : Int) (y : Int) (i : Int) : (fnLoop X E51 an51 lp Try.f51 0 N.succ (S51 n b y i)) =
  bif decide (i < b) then
  if P59 n i then
    fnLoop X E51 an51 lp Try.f51 0 N
      (mkS 22
        [(2, TV.v (Value.int IntKind.i64 b)), (3, TV.ref 0 0 0),
          (7, TV.v (Value.int IntKind.i64 (IntKind.i64.wrap (y + (↑(pcB n i).size : Int))))),
          (8, TV.v (Value.int IntKind.i64 (IntKind.i64.wrap (i + 1))))]
        [n.ob] 0)
  else none
else some (Exit.exit 0, mkS 22 [(7, TV.v (Value.int IntKind.i64 y))] [] 0) := by kernel_rfl
/-- How many bytes the parts of a node from a place on, ahead of another one, take. -/
def bysP (z : List Int) (a b : Int) : Int := ((z.take b.toNat).drop a.toNat).sum
theorem N3.Sm.szs {n : N3} (h : n.Sm) : P49 n.szs 0 ∧ n.szs.length = n.K.length := by
  obtain ⟨h1, h2, h3⟩ := h
  have hl := h1.pcs
  have hl2 : n.szs.length = n.K.length := by unfold N3.szs; rw [List.length_map, hl]
  refine ⟨⟨fun x hx => ?_, by omega, .inl rfl⟩, hl2⟩
  unfold N3.szs at hx
  rw [List.mem_map] at hx
  obtain ⟨p, hp, rfl⟩ := hx
  have := h2 p hp
  omega
theorem sum_cut {z : List Int} {g : Int} (h : P49 z g) (a b : Nat) : 0 ≤ ((z.take b).drop a).sum ∧ ((z.take b).drop a).sum ≤ 1000000 := by
  have h1 := h.take b
  have e1 := sum_nonneg (z := (z.take b).drop a) fun x hx => (h.1 x (List.mem_of_mem_take (List.mem_of_mem_drop hx))).1
  have e2 := sum_nonneg (z := (z.take b).take a) fun x hx => (h.1 x (List.mem_of_mem_take (List.mem_of_mem_take hx))).1
  have e3 := sum_drop_eq (z := z.take b) a
  omega
theorem rounds51 (lp : Lp U) (n : N4) (h : n.n3.Sm) (b : Nat) (hb : b ≤ n.K.length) : ∀ (m i : Nat) (y : Int), b ≤ i + m → 0 ≤ y → y ≤ 1000 * i → fnLoop X E51 an51 lp Try.f51 0 (m + 1) (S51 n b y i) = some (.exit 0, Z51 (y + ((n.n3.szs.take b).drop i).sum)) := by
  obtain ⟨hs1, hs2⟩ := h.szs
  have hs2 : n.n3.szs.length = n.K.length := hs2
  have hK : n.K.length ≤ 1000 := h.2.2
  intro m
  induction m with
  | zero =>
    intro i y h1 h2 h3
    rw [r51, decide_eq_false (by omega), List.drop_eq_nil_of_le (by rw [List.length_take]; omega)]
    simp [Z51]
  | succ m ih =>
    intro i y h1 h2 h3
    by_cases hi : i < b
    · have hp : P59 n i := ⟨h.1, by omega, by omega⟩
      have hpl : n.n3.pcs.length = n.K.length := h.1.pcs
      obtain ⟨p, hpz, hpz2⟩ := getE (l := n.n3.pcs) (v := (i : Int)) (by omega) (by omega)
      have hpz2 : n.n3.pcs[i]? = some p := hpz2
      have hpc : pcB n i = p := by unfold pcB; rw [hpz]; rfl
      have hx : n.n3.szs[i]? = some (p.size : Int) := by unfold N3.szs; rw [List.getElem?_map, hpz2]; rfl
      have hxs := hs1.1 _ (List.mem_of_getElem? hx)
      have hd : ((n.n3.szs.take b).drop i).sum = p.size + ((n.n3.szs.take b).drop (i + 1)).sum := by
        have e : (n.n3.szs.take b)[i]? = some (p.size : Int) := by rw [List.getElem?_take, if_pos hi]; exact hx
        have := sum_drop_succ e
        rw [sum_drop_eq, this]
        omega
      rw [r51, decide_eq_true (by omega), cond_true, if_pos hp, hpc, wr (a := y + p.size) (by omega) (by omega), wr (a := (i : Int) + 1) (by omega) (by omega), hd]
      have := ih (i + 1) (y + p.size) (by omega) (by omega) (by omega)
      rw [Int.add_assoc] at this
      exact this
    · rw [r51, decide_eq_false (by omega), List.drop_eq_nil_of_le (by rw [List.length_take]; omega)]
      simp [Z51]
def dl51 (s : TS U) : Option (N4 × Int × Int × Int) := match told s 22 [2, 3, 7, 8] 0, s.objs with
  | some [a0, a1, a2, a3], [o0] =>
    match o0 with
    | .cells [q0, q1, q2, q3] false =>
      match q0 with
      | .v (.bool n_L) =>
        match q1 with
        | .lst .str n_K =>
          match q2 with
          | .lst .t83 n_V =>
            match q3 with
            | .lst .i64 n_I =>
              match a0 with
              | .v (.int .i64 b) =>
                match a1 with
                | .ref 0 0 0 =>
                  match a2 with
                  | .v (.int .i64 y) =>
                    match a3 with
                    | .v (.int .i64 i) =>
                      some ((⟨n_L, n_K, n_V, n_I⟩ : N4), b, y, i)
                    | _ => none
                  | _ => none
                | _ => none
              | _ => none
            | _ => none
          | _ => none
        | _ => none
      | _ => none
    | _ => none
  | _, _ => none
theorem dl51_ok {s : TS U} {n : N4} {b : Int} {y : Int} {i : Int} (h : dl51 s = some (n, b, y, i)) : s = mkS (U := U) 22 ([2, 3, 7, 8].zip ([.v (.int .i64 b), .ref 0 0 0, .v (.int .i64 y), .v (.int .i64 i)] : List (TV U))) ([n.ob] : List (TO U)) 0 := by
  unfold dl51 at h
  split at h <;> try (cases h; done)
  rename_i ht ho
  have hs := told_ok ht
  rw [ho] at hs
  repeat' split at h
  all_goals first | (cases h; done) | (cases h; exact hs)
def P51 (n : N4) (a b y : Int) : Prop := n.n3.Sm ∧ 0 ≤ a ∧ 0 ≤ b ∧ b ≤ n.K.length ∧ y = 0
noncomputable instance (n : N4) (a b y : Int) : Decidable (P51 n a b y) := Classical.propDecidable _
noncomputable def lc51 : LC U := .of dl51 (fun (n, b, y, i) => P51 n i b y) (.exit 0) fun (n, b, y, i) => Z51 (bysP n.n3.szs i b)
noncomputable def lp51 : Lp U := lpL [(0, lc51)]
theorem lp51_ok : ∀ c, Try.f51.body = some c → LpOk X E51 an51 lp51 (loops c 0) := lpL_ok (by kernel_rfl) fun b L hm st p hs => by
  cases hm with
  | head =>
    obtain ⟨⟨n, b, y, i⟩, hx, ⟨h1, h2, h3, h4, rfl⟩, rfl⟩ := LC.of_some hs
    obtain rfl := dl51_ok hx
    obtain ⟨i, rfl⟩ := Int.eq_ofNat_of_zero_le h2
    obtain ⟨b, rfl⟩ := Int.eq_ofNat_of_zero_le h3
    refine ⟨_, (rounds51 _ n h1 b (by omega) b i 0 (by omega) (Int.le_refl 0) (by omega)).trans ?_⟩
    rw [Int.zero_add]
    rfl
  | tail _ hm => cases hm
theorem e51 (n : N4) (a : Int) (b : Int) : (evFn X E51 an51 lp51 Try.f51 []
  [n.tv, TV.v (Value.int IntKind.i64 a), TV.v (Value.int IntKind.i64 b)] fun (o : List (TO X.U)) (v : TV X.U) =>
  some (o, v)) =
  if P51 n a b 0 then some ([], TV.v (Value.int IntKind.i64 (bysP n.n3.szs a b))) else none := by kernel_rfl
def d51 (objs : List (TO U)) (args : List (TV U)) : Option (N4 × Int × Int) := match objs, args with
  | [], [a0, a1, a2] =>
    match a0 with
    | .agg [q0, q1, q2, q3] =>
      match q0 with
      | .v (.bool n_L) =>
        match q1 with
        | .lst .str n_K =>
          match q2 with
          | .lst .t83 n_V =>
            match q3 with
            | .lst .i64 n_I =>
              match a1 with
              | .v (.int .i64 a) =>
                match a2 with
                | .v (.int .i64 b) =>
                  some ((⟨n_L, n_K, n_V, n_I⟩ : N4), a, b)
                | _ => none
              | _ => none
            | _ => none
          | _ => none
        | _ => none
      | _ => none
    | _ => none
  | _, _ => none
theorem d51_ok {objs : List (TO U)} {args : List (TV U)} {n : N4} {a : Int} {b : Int} (h : d51 objs args = some (n, a, b)) : objs = [] ∧ args = [n.tv, .v (.int .i64 a), .v (.int .i64 b)] := by
  unfold d51 at h
  repeat' split at h
  all_goals first | (cases h; done) | (cases h; exact ⟨rfl, rfl⟩)
noncomputable def sBys : Spc U := .of d51 (fun (n, a, b) => P51 n a b 0) (fun _ => []) fun (n, a, b) => .v (.int .i64 (bysP n.n3.szs a b))
theorem sBys_ok : SpecOk Try.prog 51 sBys := by
  refine fn_ok X_ok mixed E51_ok an51 lp51 Try.func51 (by kernel_rfl) (by kernel_rfl) lp51_ok fun objs args x hx hp => ?_
  obtain ⟨n, a, b⟩ := x
  obtain ⟨rfl, rfl⟩ := d51_ok hx
  exact (e51 n a b).trans (if_pos hp)
noncomputable def E22 : FuncId → Option (Spc U)
  | 25 => some sPutR
  | 51 => some sBys
  | _ => none
theorem E22_ok : ∀ f S, E22 f = some S → SpecOk Try.prog f S := fun f S h => by
  unfold E22 at h
  split at h
  · cases h; exact sPutR_ok
  · cases h; exact sBys_ok
  · cases h
def g22_S0 (n : N4) (v0 : Int) (v1 : Int) (v2 : Int) : TS U := mkS 49
  [(1, TV.ref 0 0 0), (3, TV.v (Value.int IntKind.i64 v0)), (4, TV.v (Value.int IntKind.i64 v1)),
    (5, TV.v (Value.int IntKind.i64 v2))]
  [n.ob] 0
theorem g22_e0 (lp : Lp
  U) (n : N4) (N : Nat) (v0 : Int) (v1 : Int) (v2 : Int) : fnLoop X E22 an22 lp Try.f22 0 N.succ (g22_S0 n v0 v1 v2) =
  bif decide (v2 < (↑n.K.length : Int)) then
  bif !n.L then
    if P51 n 0 v2 0 then
      if P51 n (IntKind.i64.wrap (v2 + 1)) (↑n.K.length : Int) 0 then
        bif decide (bysP n.n3.szs 0 v2 < bysP n.n3.szs (IntKind.i64.wrap (v2 + 1)) (↑n.K.length : Int)) then
          bif decide (v0 < 0) then
            fnLoop X E22 an22 lp Try.f22 0 N
              (g22_S0 n (bysP n.n3.szs (IntKind.i64.wrap (v2 + 1)) (↑n.K.length : Int)) v2 (IntKind.i64.wrap (v2 + 1)))
          else
            bif decide (bysP n.n3.szs (IntKind.i64.wrap (v2 + 1)) (↑n.K.length : Int) < v0) then
              fnLoop X E22 an22 lp Try.f22 0 N
                (g22_S0 n (bysP n.n3.szs (IntKind.i64.wrap (v2 + 1)) (↑n.K.length : Int)) v2
                  (IntKind.i64.wrap (v2 + 1)))
            else fnLoop X E22 an22 lp Try.f22 0 N (g22_S0 n v0 v1 (IntKind.i64.wrap (v2 + 1)))
        else
          bif decide (v0 < 0) then
            fnLoop X E22 an22 lp Try.f22 0 N (g22_S0 n (bysP n.n3.szs 0 v2) v2 (IntKind.i64.wrap (v2 + 1)))
          else
            bif decide (bysP n.n3.szs 0 v2 < v0) then
              fnLoop X E22 an22 lp Try.f22 0 N (g22_S0 n (bysP n.n3.szs 0 v2) v2 (IntKind.i64.wrap (v2 + 1)))
            else fnLoop X E22 an22 lp Try.f22 0 N (g22_S0 n v0 v1 (IntKind.i64.wrap (v2 + 1)))
      else none
    else none
  else
    if P51 n 0 v2 0 then
      if P51 n v2 (↑n.K.length : Int) 0 then
        bif decide (bysP n.n3.szs 0 v2 < bysP n.n3.szs v2 (↑n.K.length : Int)) then
          bif decide (v0 < 0) then
            fnLoop X E22 an22 lp Try.f22 0 N
              (g22_S0 n (bysP n.n3.szs v2 (↑n.K.length : Int)) v2 (IntKind.i64.wrap (v2 + 1)))
          else
            bif decide (bysP n.n3.szs v2 (↑n.K.length : Int) < v0) then
              fnLoop X E22 an22 lp Try.f22 0 N
                (g22_S0 n (bysP n.n3.szs v2 (↑n.K.length : Int)) v2 (IntKind.i64.wrap (v2 + 1)))
            else fnLoop X E22 an22 lp Try.f22 0 N (g22_S0 n v0 v1 (IntKind.i64.wrap (v2 + 1)))
        else
          bif decide (v0 < 0) then
            fnLoop X E22 an22 lp Try.f22 0 N (g22_S0 n (bysP n.n3.szs 0 v2) v2 (IntKind.i64.wrap (v2 + 1)))
          else
            bif decide (bysP n.n3.szs 0 v2 < v0) then
              fnLoop X E22 an22 lp Try.f22 0 N (g22_S0 n (bysP n.n3.szs 0 v2) v2 (IntKind.i64.wrap (v2 + 1)))
            else fnLoop X E22 an22 lp Try.f22 0 N (g22_S0 n v0 v1 (IntKind.i64.wrap (v2 + 1)))
      else none
    else none
else some (Exit.exit 0, mkS 49 [(4, TV.v (Value.int IntKind.i64 v1))] [] 0) := by kernel_rfl
theorem pick22 {α : Type} (F : Int → Int → α) (b1 b2 v0 v1 i : Int) : (cond (decide (b1 < b2)) (cond (decide (v0 < 0)) (F b2 i) (cond (decide (b2 < v0)) (F b2 i) (F v0 v1))) (cond (decide (v0 < 0)) (F b1 i) (cond (decide (b1 < v0)) (F b1 i) (F v0 v1)))) = F (cond (decide (v0 < 0) || decide (max b1 b2 < v0)) (max b1 b2, i) (v0, v1)).1 (cond (decide (v0 < 0) || decide (max b1 b2 < v0)) (max b1 b2, i) (v0, v1)).2 := by
  by_cases h : b1 < b2
  · rw [decide_eq_true h, cond_true, Int.max_eq_right (by omega)]
    cases decide (v0 < 0)
    · cases decide (b2 < v0) <;> rfl
    · rfl
  · rw [decide_eq_false h, cond_false, Int.max_eq_left (by omega)]
    cases decide (v0 < 0)
    · cases decide (b1 < v0) <;> rfl
    · rfl
def gP (L : Bool) : Nat := cond L 0 1
theorem bys_eq {z : List Int} (g i n : Nat) (hn : z.length = n) : max (bysP z 0 i) (bysP z ((i + g : Nat) : Int) n) = costP z g i := by
  unfold costP bysP
  rw [Int.toNat_natCast, Int.toNat_natCast, Int.toNat_natCast, List.take_of_length_le (l := z) (i := n) (by omega)]
  rfl
theorem rounds22 (lp : Lp U) (n : N4) (h : n.n3.Sm) : ∀ (m k : Nat), 1 ≤ k → n.K.length ≤ k + m → k ≤ max 1 n.K.length → fnLoop X E22 an22 lp Try.f22 0 (m + 1) (g22_S0 n (pkP (costP n.n3.szs (gP n.L)) (k - 1)).1 (pkP (costP n.n3.szs (gP n.L)) (k - 1)).2 k) = some (.exit 0, mkS 49 [(4, .v (.int .i64 (pkP (costP n.n3.szs (gP n.L)) (n.n3.szs.length - 1)).2))] [] 0) := by
  obtain ⟨hs1, hs2⟩ := h.szs
  have hs2 : n.n3.szs.length = n.K.length := hs2
  have hK : n.K.length ≤ 1000 := h.2.2
  have out : ∀ (N k : Nat), 1 ≤ k → n.K.length ≤ k → k ≤ max 1 n.K.length → fnLoop X E22 an22 lp Try.f22 0 (N + 1) (g22_S0 n (pkP (costP n.n3.szs (gP n.L)) (k - 1)).1 (pkP (costP n.n3.szs (gP n.L)) (k - 1)).2 k) = some (.exit 0, mkS 49 [(4, .v (.int .i64 (pkP (costP n.n3.szs (gP n.L)) (n.n3.szs.length - 1)).2))] [] 0) := by
    intro N k h1 h2 h3
    rw [g22_e0, decide_eq_false (by omega), show k - 1 = n.n3.szs.length - 1 by omega]
    rfl
  intro m
  induction m with
  | zero => intro k h1 h2 h3; exact out 0 k h1 (by omega) h3
  | succ m ih =>
    intro k h1 h2 h3
    by_cases hk : k < n.K.length
    · have ih := ih (k + 1) (by omega) (by omega) (by omega)
      rw [Nat.add_sub_cancel] at ih
      have hstp : pkP (costP n.n3.szs (gP n.L)) k = stpP (costP n.n3.szs (gP n.L)) (pkP (costP n.n3.szs (gP n.L)) (k - 1)) k := by
        obtain ⟨j, rfl⟩ : ∃ j, k = j + 1 := ⟨k - 1, by omega⟩
        rfl
      have hw : IntKind.i64.wrap ((k : Int) + 1) = ((k + 1 : Nat) : Int) := wr (a := (k : Int) + 1) (by omega) (by omega)
      rw [hstp] at ih
      rw [g22_e0, decide_eq_true (by omega), cond_true, hw]
      have c1 : P51 n 0 k 0 := ⟨h, Int.le_refl 0, by omega, by omega, rfl⟩
      cases hL : n.L with
      | true =>
        rw [hL] at ih
        have e := bys_eq (z := n.n3.szs) 0 k n.K.length hs2
        have c2 : P51 n k n.K.length 0 := ⟨h, by omega, by omega, Int.le_refl _, rfl⟩
        rw [Nat.add_zero] at e
        rw [Bool.not_true, cond_false, if_pos c1, if_pos c2]
        refine (pick22 (fun x y => fnLoop X E22 an22 lp Try.f22 0 (m + 1) (g22_S0 n x y ((k + 1 : Nat) : Int))) (bysP n.n3.szs 0 k) (bysP n.n3.szs k n.K.length) _ _ k).trans ?_
        rw [e]
        exact ih
      | false =>
        rw [hL] at ih
        have e := bys_eq (z := n.n3.szs) 1 k n.K.length hs2
        have c2 : P51 n ((k + 1 : Nat) : Int) n.K.length 0 := ⟨h, by omega, by omega, Int.le_refl _, rfl⟩
        rw [Bool.not_false, cond_true, if_pos c1, if_pos c2]
        refine (pick22 (fun x y => fnLoop X E22 an22 lp Try.f22 0 (m + 1) (g22_S0 n x y ((k + 1 : Nat) : Int))) (bysP n.n3.szs 0 k) (bysP n.n3.szs ((k + 1 : Nat) : Int) n.K.length) _ _ k).trans ?_
        rw [e]
        exact ih
    · exact out (m + 1) k h1 (by omega) h3
def dl22 (s : TS U) : Option (N4 × Int × Int × Int) := match told s 49 [1, 3, 4, 5] 0, s.objs with
  | some [a0, a1, a2, a3], [o0] =>
    match o0 with
    | .cells [q0, q1, q2, q3] false =>
      match q0 with
      | .v (.bool n_L) =>
        match q1 with
        | .lst .str n_K =>
          match q2 with
          | .lst .t83 n_V =>
            match q3 with
            | .lst .i64 n_I =>
              match a0 with
              | .ref 0 0 0 =>
                match a1 with
                | .v (.int .i64 b) =>
                  match a2 with
                  | .v (.int .i64 a) =>
                    match a3 with
                    | .v (.int .i64 i) =>
                      some ((⟨n_L, n_K, n_V, n_I⟩ : N4), b, a, i)
                    | _ => none
                  | _ => none
                | _ => none
              | _ => none
            | _ => none
          | _ => none
        | _ => none
      | _ => none
    | _ => none
  | _, _ => none
theorem dl22_ok {s : TS U} {n : N4} {b : Int} {a : Int} {i : Int} (h : dl22 s = some (n, b, a, i)) : s = mkS (U := U) 49 ([1, 3, 4, 5].zip ([.ref 0 0 0, .v (.int .i64 b), .v (.int .i64 a), .v (.int .i64 i)] : List (TV U))) ([n.ob] : List (TO U)) 0 := by
  unfold dl22 at h
  split at h <;> try (cases h; done)
  rename_i ht ho
  have hs := told_ok ht
  rw [ho] at hs
  repeat' split at h
  all_goals first | (cases h; done) | (cases h; exact hs)
def P22 (n : N4) (b a i : Int) : Prop := n.n3.Sm ∧ b = -1 ∧ a = 0 ∧ i = 1
noncomputable instance (n : N4) (b a i : Int) : Decidable (P22 n b a i) := Classical.propDecidable _
/-- Where a node is parted. -/
def N3.pt (n : N3) : Int := (pkP (costP n.szs (gP n.L)) (n.szs.length - 1)).2
noncomputable def lc22 : LC U := .of dl22 (fun (n, b, a, i) => P22 n b a i) (.exit 0) fun (n, b, a, i) => mkS 49 [(4, .v (.int .i64 n.n3.pt))] [] 0
noncomputable def lp22 : Lp U := lpL [(0, lc22)]
theorem lp22_ok : ∀ c, Try.f22.body = some c → LpOk X E22 an22 lp22 (loops c 0) := lpL_ok (by kernel_rfl) fun b L hm st p hs => by
  cases hm with
  | head =>
    obtain ⟨⟨n, b, a, i⟩, hx, ⟨h, rfl, rfl, rfl⟩, rfl⟩ := LC.of_some hs
    obtain rfl := dl22_ok hx
    exact ⟨_, rounds22 _ n h n.K.length 1 (Nat.le_refl 1) (by omega) (by omega)⟩
  | tail _ hm => cases hm
theorem e22 (n : N4) : (evFn X E22 an22 lp22 Try.f22 [] [n.tv] fun (o : List (TO X.U)) (v : TV X.U) => some (o, v)) =
  if n.n3.Ok then
  bif decide ((↑n.n3.put.size : Int) ≤ 237) then some ([], TV.v (Value.int IntKind.i64 (-1)))
  else if P22 n (-1) 0 1 then some ([], TV.v (Value.int IntKind.i64 n.n3.pt)) else none
else none := by kernel_rfl
def N3.at (n : N3) : Int := cond (decide ((n.put.size : Int) ≤ 237)) (-1) n.pt
def dNat (objs : List (TO U)) (args : List (TV U)) : Option (N4) := match objs, args with
  | [], [a0] =>
    match a0 with
    | .agg [q0, q1, q2, q3] =>
      match q0 with
      | .v (.bool n_L) =>
        match q1 with
        | .lst .str n_K =>
          match q2 with
          | .lst .t83 n_V =>
            match q3 with
            | .lst .i64 n_I =>
              some (⟨n_L, n_K, n_V, n_I⟩ : N4)
            | _ => none
          | _ => none
        | _ => none
      | _ => none
    | _ => none
  | _, _ => none
theorem dNat_ok {objs : List (TO U)} {args : List (TV U)} {n : N4} (h : dNat objs args = some n) : objs = [] ∧ args = [n.tv] := by
  unfold dNat at h
  repeat' split at h
  all_goals first | (cases h; done) | (cases h; exact ⟨rfl, rfl⟩)
noncomputable def sAt : Spc U := .of dNat (fun n => n.n3.Sm) (fun _ => []) fun n => .v (.int .i64 n.n3.at)
theorem sAt_ok : SpecOk Try.prog 22 sAt := by
  refine fn_ok X_ok mixed E22_ok an22 lp22 Try.func22 (by kernel_rfl) (by kernel_rfl) lp22_ok fun objs args n hx hp => ?_
  obtain ⟨rfl, rfl⟩ := dNat_ok hx
  refine (e22 n).trans ?_
  rw [if_pos hp.1, if_pos (show P22 n (-1) 0 1 from ⟨hp, rfl, rfl, rfl⟩)]
  unfold N3.at
  cases decide ((n.n3.put.size : Int) ≤ 237) <;> rfl
end Go.Proofs.Ytmcflglkfgnbbaa.Nd

