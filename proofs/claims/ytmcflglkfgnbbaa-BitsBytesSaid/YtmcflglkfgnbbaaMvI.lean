/- Texts of this claim, put together: part 9. -/
import Derived.Test.YtmcflglkfgnbbaaMvH
/- A key is set, taken away: contracts. -/
namespace Go.Proofs.Ytmcflglkfgnbbaa.Nd
open Go Go.RowKit Go.Proofs.Ytmcflglkfgnbbaa.Eng
set_option linter.unusedVariables false
set_option linter.unusedSimpArgs false
set_option maxRecDepth 20000
/-- The same, if there is something in it; told with its first element ahead. -/
def cS (l : List ByteArray) : List ByteArray := l.headD ⟨#[]⟩ :: l.tail
def cV (l : List R33) : List R33 := l.headD ⟨⟨#[]⟩, 0, 0⟩ :: l.tail
theorem cS_eq {l : List ByteArray} (h : 0 < l.length) : cS l = l := by cases l with
  | nil => cases h
  | cons => rfl
theorem cV_eq {l : List R33} (h : 0 < l.length) : cV l = l := by cases l with
  | nil => cases h
  | cons => rfl
def noV : R33 := ⟨⟨#[]⟩, -1, 0⟩
def sK (ks : List ByteArray) (k : ByteArray) : List ByteArray := cond (isK ks k) ks (insL ks [k] (rk ks k))
def sV (ks : List ByteArray) (vs : List R33) (k : ByteArray) (v : R33) : List R33 := cond (isK ks k) (vs.set (rk ks k) v) (insL vs [v] (rk ks k))
def atV (ks : List ByteArray) (vs : List R33) (k : ByteArray) : R33 := (vs[rk ks k]?).getD noV
def sOld (ks : List ByteArray) (vs : List R33) (k : ByteArray) : R33 := cond (isK ks k) (atV ks vs k) noV
theorem isK_lt {ks : List ByteArray} {k : ByteArray} (h : isK ks k = true) : rk ks k < ks.length := by
  unfold isK at h
  split at h
  · rename_i x hx
    exact (List.getElem?_eq_some_iff.1 hx).1
  · cases h
theorem isK_at {ks : List ByteArray} {k : ByteArray} (h : isK ks k = true) : ks[rk ks k]? = some k := by
  unfold isK at h
  split at h
  · rename_i x hx
    rw [hx, toList_inj (beq_iff_eq.1 h)]
  · cases h
theorem insL_len {α : Type} (xs : List α) (y : α) {i : Nat} (h : i ≤ xs.length) : (insL xs [y] (i : Int)).length = xs.length + 1 := by
  unfold insL
  simp only [List.length_append, List.length_take, List.length_drop, List.length_singleton, Int.toNat_natCast]
  omega
theorem delL_len {α : Type} (xs : List α) {i : Nat} (h : i < xs.length) : (delL xs (i : Int) ((i : Int) + 1)).length = xs.length - 1 := by
  unfold delL
  rw [show ((i : Int) + 1).toNat = i + 1 by omega, Int.toNat_natCast]
  simp only [List.length_append, List.length_take, List.length_drop]
  omega
theorem insL_nil {α : Type} (y : α) : insL [] [y] (((rk [] ⟨#[]⟩ : Nat)) : Int) = [y] := rfl
def dSet (objs : List (TO U)) (args : List (TV U)) : Option (Bool × List ByteArray × List R33 × ByteArray × R33) := match objs, args with
  | [], [.agg [.v (.bool b), a, c, .v (.slice none 0 0)], .v (.string k), .agg [.v (.string d), .v (.int .i64 p), .v (.int .i64 l)]] => (tkL .str a).bind fun ks => (tkL .t33 c).map fun vs => (b, ks, vs, k, ⟨d, p, l⟩)
  | _, _ => none
theorem dSet_ok {objs : List (TO U)} {args : List (TV U)} {b : Bool} {ks : List ByteArray} {vs : List R33} {k : ByteArray} {v : R33} (h : dSet objs args = some (b, ks, vs, k, v)) : objs = [] ∧ args = [.agg [.v (.bool b), nvL .str ks, nvL .t33 vs, nlv], .v (.string k), vlV v] := by
  unfold dSet at h
  split at h
  · obtain ⟨ks', h1, h⟩ := Option.bind_eq_some_iff.1 h
    obtain ⟨vs', h2, h⟩ := Option.map_eq_some_iff.1 h
    cases h
    rw [tkL_ok h1, tkL_ok h2]
    exact ⟨rfl, rfl⟩
  · cases h
def PreSet (ks : List ByteArray) (vs : List R33) : Prop := ks.length = vs.length ∧ ks.length ≤ 1000000 ∧ Srt ks
noncomputable instance (ks : List ByteArray) (vs : List R33) : Decidable (PreSet ks vs) := Classical.propDecidable _
def setR (b : Bool) (ks : List ByteArray) (vs : List R33) (k : ByteArray) (v : R33) : TV U := .tup [.agg [.v (.bool b), .lst .str (cS (sK ks k)), .lst .t33 (cV (sV ks vs k v)), nlv], vlV (sOld ks vs k), .v (.bool (isK ks k))]
noncomputable def sSet : Spc U := .of dSet (fun (b, ks, vs, k, v) => PreSet ks vs) (fun _ => []) fun (b, ks, vs, k, v) => setR b ks vs k v
theorem preNd_of {b : Bool} {ks : List ByteArray} {vs : List R33} (h : PreSet ks vs) : PreNd ⟨b, ks, vs, []⟩ := by
  obtain ⟨h1, h2, h3⟩ := h
  exact ⟨by show ks.length ≤ _; omega, by show vs.length ≤ _; omega, by show 0 ≤ _; omega⟩
theorem sSet_ok : SpecOk Try.prog 13 sSet := by
  refine fn_ok X_ok mixed Eset_ok an0 lp0 Try.func13 (by kernel_rfl) (by kernel_rfl) (lp0_ok (by kernel_rfl)) fun objs args x hx hp => ?_
  obtain ⟨b, ks, vs, k, v⟩ := x
  obtain ⟨rfl, rfl⟩ := dSet_ok hx
  dsimp only at hp ⊢
  have hN := preNd_of (b := b) hp
  obtain ⟨h1, h2, h3⟩ := hp
  have hr := rk_le ks k
  have hK : PreK ks := ⟨by omega, h3⟩
  cases ks with
  | nil =>
    cases vs with
    | cons => cases h1
    | nil =>
      refine (e13n b k v).trans ?_
      have hi : isK [] k = false := rfl
      rw [if_pos hK, if_pos hN, hi, cond_false, if_pos ⟨rfl, rfl⟩, if_pos ⟨rfl, rfl⟩]
      rfl
  | cons x xs =>
    cases vs with
    | nil => cases h1
    | cons y ys =>
      refine (e13 b x xs y ys k v).trans ?_
      have hr2 : rk (x :: xs) k ≤ (y :: ys).length := by omega
      rw [if_pos hK, if_pos hN]
      unfold setR
      cases hi : isK (x :: xs) k with
      | true =>
        have hl := isK_lt hi
        obtain ⟨z, hz⟩ : ∃ z, (y :: ys)[rk (x :: xs) k]? = some z := ⟨_, List.getElem?_eq_getElem (by omega)⟩
        rw [cond_true, if_pos ⟨by omega, by omega⟩, Int.toNat_natCast, hz, Option.bind_some, if_pos ⟨by omega, by omega⟩, Option.bind_some]
        have e1 : sK (x :: xs) k = x :: xs := by unfold sK; rw [hi]; rfl
        have e2 : sV (x :: xs) (y :: ys) k v = (y :: ys).set (rk (x :: xs) k) v := by unfold sV; rw [hi]; rfl
        have e3 : sOld (x :: xs) (y :: ys) k = z := by unfold sOld atV; rw [hi, hz]; rfl
        rw [e1, e2, e3, cS_eq (by simp), cV_eq (by rw [List.length_set]; simp)]
        rfl
      | false =>
        rw [cond_false, if_pos ⟨by omega, by omega, rfl, by omega⟩, if_pos ⟨by omega, by omega, rfl, by omega⟩]
        have e1 : sK (x :: xs) k = insL (x :: xs) [k] (rk (x :: xs) k) := by unfold sK; rw [hi]; rfl
        have e2 : sV (x :: xs) (y :: ys) k v = insL (y :: ys) [v] (rk (x :: xs) k) := by unfold sV; rw [hi]; rfl
        have e3 : sOld (x :: xs) (y :: ys) k = noV := by unfold sOld; rw [hi]; rfl
        rw [e1, e2, e3, cS_eq (by rw [insL_len _ _ hr]; omega), cV_eq (by rw [insL_len _ _ hr2]; omega)]
        rfl
/-! ### A key is taken away -/
def dUnF (objs : List (TO U)) (args : List (TV U)) : Option (Bool × List ByteArray × List R33 × ByteArray) := match objs, args with
  | [], [.agg [.v (.bool b), a, c, .v (.slice none 0 0)], .v (.string k)] => (tkL .str a).bind fun ks => (tkL .t33 c).map fun vs => (b, ks, vs, k)
  | _, _ => none
theorem dUnF_ok {objs : List (TO U)} {args : List (TV U)} {b : Bool} {ks : List ByteArray} {vs : List R33} {k : ByteArray} (h : dUnF objs args = some (b, ks, vs, k)) : objs = [] ∧ args = [.agg [.v (.bool b), nvL .str ks, nvL .t33 vs, nlv], .v (.string k)] := by
  unfold dUnF at h
  split at h
  · obtain ⟨ks', h1, h⟩ := Option.bind_eq_some_iff.1 h
    obtain ⟨vs', h2, h⟩ := Option.map_eq_some_iff.1 h
    cases h
    rw [tkL_ok h1, tkL_ok h2]
    exact ⟨rfl, rfl⟩
  · cases h
def PreUn (ks : List ByteArray) (vs : List R33) (k : ByteArray) : Prop := PreSet ks vs ∧ isK ks k = true
noncomputable instance (ks : List ByteArray) (vs : List R33) (k : ByteArray) : Decidable (PreUn ks vs k) := Classical.propDecidable _
def uK {α : Type} (ks : List ByteArray) (xs : List α) (k : ByteArray) : List α := delL xs (rk ks k) ((rk ks k : Int) + 1)
def unR (b : Bool) (ks : List ByteArray) (vs : List R33) (k : ByteArray) : TV U := .tup [.agg [.v (.bool b), .lst .str (uK ks ks k), .lst .t33 (uK ks vs k), nlv], vlV (atV ks vs k), .v (.bool true)]
noncomputable def sUnF : Spc U := .of dUnF (fun (b, ks, vs, k) => PreUn ks vs k) (fun _ => []) fun (b, ks, vs, k) => unR b ks vs k
theorem sUnF_ok : SpecOk Try.prog 14 sUnF := by
  refine fn_ok X_ok mixed Eset_ok an0 lp0 Try.func14 (by kernel_rfl) (by kernel_rfl) (lp0_ok (by kernel_rfl)) fun objs args x hx hp => ?_
  obtain ⟨b, ks, vs, k⟩ := x
  obtain ⟨rfl, rfl⟩ := dUnF_ok hx
  dsimp only at hp ⊢
  obtain ⟨hp, hi⟩ := hp
  have hN := preNd_of (b := b) hp
  obtain ⟨h1, h2, h3⟩ := hp
  have hr := rk_le ks k
  have hl := isK_lt hi
  have hK : PreK ks := ⟨by omega, h3⟩
  cases ks with
  | nil => cases hl
  | cons x xs =>
    cases vs with
    | nil => cases h1
    | cons y ys =>
      refine (e14 b x xs y ys k).trans ?_
      obtain ⟨z, hz⟩ : ∃ z, (y :: ys)[rk (x :: xs) k]? = some z := ⟨_, List.getElem?_eq_getElem (by omega)⟩
      have hw : IntKind.i64.wrap ((rk (x :: xs) k : Int) + 1) = (rk (x :: xs) k : Int) + 1 := wr (by omega) (by omega)
      rw [if_pos hK, hi]
      simp only [Bool.not_true, cond_false]
      rw [if_pos hN, if_pos ⟨by omega, by omega⟩, Int.toNat_natCast, hz, Option.bind_some, hw, if_pos ⟨by omega, by omega, by omega, by omega⟩, if_pos ⟨by omega, by omega, by omega, by omega⟩]
      unfold unR atV
      rw [hz]
      rfl
noncomputable def Eun : FuncId → Option (Spc U)
  | 12 => some sBS
  | _ => none
theorem Eun_ok : ∀ f S, Eun f = some S → SpecOk Try.prog f S := fun f S h => by
  unfold Eun at h
  split at h
  · cases h; exact sFind_ok
  · cases h
theorem e14n (b : Bool) (xs : List
  ByteArray) (ys : List
  R33) (k : ByteArray) : (evFn X Eun an0 lp0 Try.f14 []
  [TV.agg [TV.v (Value.bool b), TV.lst C.str xs, TV.lst C.t33 ys, TV.v (Value.slice none 0 0)], TV.v (Value.string k)]
  fun (o : List (TO X.U)) (v : TV X.U) => some (o, v)) =
  if PreK xs then
  bif !isK xs k then
    some
      ([],
        TV.tup
          [TV.agg [TV.v (Value.bool b), TV.lst C.str xs, TV.lst C.t33 ys, TV.v (Value.slice none 0 0)],
            TV.agg
              [TV.v (Value.string (⟨#[]⟩ : ByteArray)), TV.v (Value.int IntKind.i64 (-1)), TV.v (Value.int IntKind.i64 0)],
            TV.v (Value.bool false)])
  else none
else none := by kernel_rfl
def dUnN (objs : List (TO U)) (args : List (TV U)) : Option (Bool × List ByteArray × List R33 × ByteArray) := match objs, args with
  | [], [a0, a1] =>
    match a0 with
    | .agg [q0, q1, q2, q3] =>
      match q0 with
      | .v (.bool b) =>
        match q1 with
        | .lst .str ks =>
          match q2 with
          | .lst .t33 vs =>
            match q3 with
            | .v (.slice none 0 0) =>
              match a1 with
              | .v (.string k) =>
                some (b, ks, vs, k)
              | _ => none
            | _ => none
          | _ => none
        | _ => none
      | _ => none
    | _ => none
  | _, _ => none
theorem dUnN_ok {objs : List (TO U)} {args : List (TV U)} {b : Bool} {ks : List ByteArray} {vs : List R33} {k : ByteArray} (h : dUnN objs args = some (b, ks, vs, k)) : objs = [] ∧ args = [.agg [.v (.bool b), .lst .str ks, .lst .t33 vs, .v (.slice none 0 0)], .v (.string k)] := by
  unfold dUnN at h
  repeat' split at h
  all_goals first | (cases h; done) | (cases h; exact ⟨rfl, rfl⟩)
def PreUnN (ks : List ByteArray) (k : ByteArray) : Prop := PreK ks ∧ isK ks k = false
noncomputable instance (ks : List ByteArray) (k : ByteArray) : Decidable (PreUnN ks k) := Classical.propDecidable _
def unRN (b : Bool) (ks : List ByteArray) (vs : List R33) : TV U := .tup [.agg [.v (.bool b), .lst .str ks, .lst .t33 vs, nlv], vlV noV, .v (.bool false)]
noncomputable def sUnN : Spc U := .of dUnN (fun (b, ks, vs, k) => PreUnN ks k) (fun _ => []) fun (b, ks, vs, k) => unRN b ks vs
theorem sUnN_ok : SpecOk Try.prog 14 sUnN := by
  refine fn_ok X_ok mixed Eun_ok an0 lp0 Try.func14 (by kernel_rfl) (by kernel_rfl) (lp0_ok (by kernel_rfl)) fun objs args x hx hp => ?_
  obtain ⟨b, ks, vs, k⟩ := x
  obtain ⟨rfl, rfl⟩ := dUnN_ok hx
  obtain ⟨h1, h2⟩ := hp
  refine (e14n b ks vs k).trans ?_
  rw [if_pos h1, h2]
  rfl
noncomputable def sUn : Spc U := .of2 dUnN (fun (b, ks, vs, k) => PreSet ks vs) (fun (b, ks, vs, k) => isK ks k) (fun _ => []) (fun (b, ks, vs, k) => unR b ks vs k) (fun _ => []) fun (b, ks, vs, k) => unRN b ks vs
theorem sUn_ok : SpecOk Try.prog 14 sUn := by
  refine ⟨sUnF_ok.fn, Spc.of2_path, fun objs args objs' res hs => ?_⟩
  obtain ⟨⟨b, ks, vs, k⟩, hx, hp, he⟩ := Spc.of2_some hs
  obtain ⟨rfl, rfl⟩ := dUnN_ok hx
  dsimp only at hp he
  cases hi : isK ks k with
  | true =>
    rw [hi] at he
    cases he
    refine sUnF_ok.ok [] [.agg [.v (.bool b), .lst .str ks, .lst .t33 vs, .v (.slice none 0 0)], .v (.string k)] [] (unR b ks vs k) ?_
    have hl := isK_lt hi
    have h1 := hp.1
    cases ks with
    | nil => cases hl
    | cons x xs =>
      cases vs with
      | nil => cases h1
      | cons y ys =>
        show (if PreUn (x :: xs) (y :: ys) k then _ else none) = _
        rw [if_pos ⟨hp, hi⟩]
  | false =>
    rw [hi] at he
    cases he
    refine sUnN_ok.ok [] [.agg [.v (.bool b), .lst .str ks, .lst .t33 vs, .v (.slice none 0 0)], .v (.string k)] [] (unRN b ks vs) ?_
    show (if PreUnN ks k then _ else none) = _
    rw [if_pos ⟨⟨by have := hp.2.1; omega, hp.2.2⟩, hi⟩]
/-! ### What a key has -/
def valP (z : R24) : R33 := cond (decide (IntKind.i64.wrap (↑(BitVec.ofInt IntKind.i64.bits z.Page &&& BitVec.ofInt IntKind.i64.bits 1).toNat : Int) = 0)) ⟨z.V.extract 0 (min z.V.size 48), -1, 0⟩
  ⟨⟨#[]⟩, IntKind.i64.wrap (↑(BitVec.ofInt IntKind.i64.bits z.Page &&& BitVec.ofInt IntKind.i64.bits 16383).toNat : Int), IntKind.i64.wrap (49 + IntKind.i64.wrap (↑(BitVec.ofInt IntKind.i64.bits z.Len &&& BitVec.ofInt IntKind.i64.bits 16383).toNat : Int))⟩
theorem cutB_min (b : ByteArray) (n : Nat) : cutB b none (some (if (n : Int) < (b.size : Int) then (n : Int) else (b.size : Int))) = some (b.extract 0 (min b.size n)) := by
  unfold cutB
  by_cases h : (n : Int) < (b.size : Int)
  · rw [if_pos h]
    dsimp only
    rw [if_pos ⟨by omega, by omega⟩, Int.toNat_natCast, Nat.min_eq_right (by omega)]
  · rw [if_neg h]
    dsimp only
    rw [if_pos ⟨by omega, by omega⟩, Int.toNat_natCast, Nat.min_eq_left (by omega)]
def kV (z : R24) : TV U := .agg [.v (.string z.S), .v (.string z.V), .v (.int .i64 z.Page), .v (.int .i64 z.Len)]
def R24.kV (z : R24) : TV U := .agg [.v (.string z.S), .v (.string z.V), .v (.int .i64 z.Page), .v (.int .i64 z.Len)]
def dKk (objs : List (TO U)) (args : List (TV U)) : Option (R24) := match objs, args with
  | [], [a0] =>
    match a0 with
    | .agg [q0, q1, q2, q3] =>
      match q0 with
      | .v (.string z_S) =>
        match q1 with
        | .v (.string z_V) =>
          match q2 with
          | .v (.int .i64 z_Page) =>
            match q3 with
            | .v (.int .i64 z_Len) =>
              some (⟨z_S, z_V, z_Page, z_Len⟩ : R24)
            | _ => none
          | _ => none
        | _ => none
      | _ => none
    | _ => none
  | _, _ => none
theorem dKk_ok {objs : List (TO U)} {args : List (TV U)} {z : R24} (h : dKk objs args = some z) : objs = [] ∧ args = [z.kV] := by
  unfold dKk at h
  repeat' split at h
  all_goals first | (cases h; done) | (cases h; exact ⟨rfl, rfl⟩)
def sVal : Spc U := .of dKk (fun _ => True) (fun _ => []) fun z => vlV (valP z)
theorem sVal_ok : SpecOk Try.prog 11 sVal := by
  refine fn_ok X_ok mixed E0_ok an0 lp0 Try.func11 (by kernel_rfl) (by kernel_rfl) (lp0_ok (by kernel_rfl)) fun objs args z hx hp => ?_
  obtain ⟨rfl, rfl⟩ := dKk_ok hx
  refine (e11 z).trans ?_
  have hc := cutB_min z.V 48
  rw [show ((48 : Nat) : Int) = 48 from rfl] at hc
  rw [hc]
  dsimp only
  unfold valP
  cases decide (IntKind.i64.wrap (↑(BitVec.ofInt IntKind.i64.bits z.Page &&& BitVec.ofInt IntKind.i64.bits 1).toNat : Int) = 0) <;> rfl
end Go.Proofs.Ytmcflglkfgnbbaa.Nd

/- A leaf of some keys. -/
namespace Go.Proofs.Ytmcflglkfgnbbaa.Nd
open Go Go.RowKit Go.Proofs.Ytmcflglkfgnbbaa.Eng
set_option linter.unusedVariables false
set_option linter.unusedSimpArgs false
set_option maxRecDepth 20000
theorem take_lt {xs : List ByteArray} {k x : ByteArray} (h : x ∈ xs.take (rk xs k)) : lt x k = true := by
  obtain ⟨j, hj⟩ := List.mem_iff_getElem?.1 h
  rw [List.getElem?_take] at hj
  split at hj
  · rename_i hl
    exact rk_below hj hl
  · cases hj
theorem drop_gt {xs : List ByteArray} {k x : ByteArray} (hs : Srt xs) (hn : isK xs k = false) (h : x ∈ xs.drop (rk xs k)) : lt k x = true := by
  obtain ⟨j, hj⟩ := List.mem_iff_getElem?.1 h
  rw [List.getElem?_drop] at hj
  have h1 : lt x k = false := by
    cases hq : lt x k with
    | false => rfl
    | true => have := rk_lt hs hj hq; omega
  cases hq : lt k x with
  | true => rfl
  | false =>
    have e := lt_tri h1 hq
    subst e
    cases j with
    | zero =>
      rw [Nat.add_zero] at hj
      unfold isK at hn
      rw [hj] at hn
      simp at hn
    | succ j =>
      have hr : rk xs x < xs.length := by have := (List.getElem?_eq_some_iff.1 hj).1; omega
      have hp := List.pairwise_iff_getElem.1 hs (rk xs x) (rk xs x + (j + 1)) hr (List.getElem?_eq_some_iff.1 hj).1 (by omega)
      rw [(List.getElem?_eq_some_iff.1 hj).2] at hp
      have := rk_lt hs (List.getElem?_eq_getElem hr) hp
      omega
theorem insL_srt {ks : List ByteArray} {k : ByteArray} (hs : Srt ks) (hn : isK ks k = false) : Srt (insL ks [k] (rk ks k)) := by
  unfold insL Srt
  rw [Int.toNat_natCast, List.pairwise_append]
  refine ⟨hs.sublist (List.take_sublist _ _), ?_, ?_⟩
  · rw [List.singleton_append, List.pairwise_cons]
    exact ⟨fun x hx => drop_gt hs hn hx, hs.sublist (List.drop_sublist _ _)⟩
  · intro a ha b hb
    rw [List.singleton_append, List.mem_cons] at hb
    rcases hb with rfl | hb
    · exact take_lt ha
    · exact lt_trans (take_lt ha) (drop_gt hs hn hb)
theorem sK_srt {ks : List ByteArray} {k : ByteArray} (hs : Srt ks) : Srt (sK ks k) := by
  unfold sK
  cases hn : isK ks k with
  | true => exact hs
  | false => exact insL_srt hs hn
theorem sK_len (ks : List ByteArray) (k : ByteArray) : 0 < (sK ks k).length ∧ (sK ks k).length ≤ ks.length + 1 := by
  unfold sK
  cases hn : isK ks k with
  | true => have := isK_lt hn; simp only [cond_true]; omega
  | false => rw [cond_false, insL_len _ _ (rk_le ks k)]; omega
theorem sV_len {ks : List ByteArray} {vs : List R33} {k : ByteArray} {v : R33} (h : ks.length = vs.length) : (sK ks k).length = (sV ks vs k v).length := by
  have := rk_le ks k
  unfold sK sV
  cases hn : isK ks k with
  | true => rw [cond_true, cond_true, List.length_set, h]
  | false => rw [cond_false, cond_false, insL_len _ _ this, insL_len _ _ (by omega), h]
theorem PreSet.step {ks : List ByteArray} {vs : List R33} {k : ByteArray} {v : R33} (h : PreSet ks vs) (hl : ks.length ≤ 999999) : PreSet (sK ks k) (sV ks vs k v) := ⟨sV_len h.1, by have := sK_len ks k; omega, sK_srt h.2.2⟩
def keyP (z : R24) : ByteArray := z.S.extract 0 (min z.S.size 64)
def stL (c : List ByteArray × List R33) (z : R24) : List ByteArray × List R33 := (sK c.1 (keyP z), sV c.1 c.2 (keyP z) (valP z))
noncomputable def El : FuncId → Option (Spc U)
  | 11 => some sVal
  | 13 => some sSet
  | _ => none
theorem El_ok : ∀ f S, El f = some S → SpecOk Try.prog f S := fun f S h => by
  unfold El at h
  split at h
  · cases h; exact sVal_ok
  · cases h; exact sSet_ok
  · cases h
def an9 : Ann := ⟨fun | 0 => 13 | _ => 0, fun | 0 => 4 | _ => 0, fun _ => [], false⟩
def S9 (l : List R24) (a c : TV U) (i : Int) : TS U := mkS 40 [(0, .lst .t24 l), (2, .ref 0 0 0), (3, .v (.int .i64 i))] [.cells [.v (.bool true), a, c, nlv] false] 0
def E9 (a c : TV U) : TS U := mkS 40 [(2, .ref 0 0 0)] [.cells [.v (.bool true), a, c, nlv] false] 0
theorem r9n (lp : Lp U) (N : Nat) (l : List R24) (i : Int) : (fnLoop X El an9 lp Try.f9 0 N.succ (S9 l nlv nlv i)) =
  bif decide (i < (↑l.length : Int)) then
  bif decide (i < 40) then
    (getI l i).bind fun (z : X.U.T C.t24) =>
      (getI l i).bind fun (z_1 : X.U.T C.t24) =>
        (cutB z.S none (some (if 64 < (↑z_1.S.size : Int) then 64 else (↑z_1.S.size : Int)))).bind
          fun (c : ByteArray) =>
          (getI l i).bind fun (z : X.U.T C.t24) =>
            if True then
              if PreSet [] [] then
                fnLoop X El an9 lp Try.f9 0 N
                  (mkS 40
                    [(0, TV.lst C.t24 l), (2, TV.ref 0 0 0),
                      (3, TV.v (Value.int IntKind.i64 (IntKind.i64.wrap (i + 1))))]
                    [TO.cells
                        [TV.v (Value.bool true), TV.lst C.str (cS (sK [] c)), TV.lst C.t33 (cV (sV [] [] c (valP z))),
                          TV.v (Value.slice none 0 0)]
                        false]
                    0)
              else none
            else none
  else
    some
      (Exit.exit 0,
        mkS 40 [(2, TV.ref 0 0 0)]
          [TO.cells
              [TV.v (Value.bool true), TV.v (Value.slice none 0 0), TV.v (Value.slice none 0 0),
                TV.v (Value.slice none 0 0)]
              false]
          0)
else
  some
    (Exit.exit 0,
      mkS 40 [(2, TV.ref 0 0 0)]
        [TO.cells
            [TV.v (Value.bool true), TV.v (Value.slice none 0 0), TV.v (Value.slice none 0 0),
              TV.v (Value.slice none 0 0)]
            false]
        0) := by kernel_rfl
theorem r9c (lp : Lp
  U) (N : Nat) (l : List
  R24) (x : ByteArray) (xs : List
  ByteArray) (y : R33) (ys : List
  R33) (i : Int) : (fnLoop X El an9 lp Try.f9 0 N.succ (S9 l (TV.lst C.str (x :: xs)) (TV.lst C.t33 (y :: ys)) i)) =
  bif decide (i < (↑l.length : Int)) then
  bif decide (i < 40) then
    (getI l i).bind fun (z : X.U.T C.t24) =>
      (getI l i).bind fun (z_1 : X.U.T C.t24) =>
        (cutB z.S none (some (if 64 < (↑z_1.S.size : Int) then 64 else (↑z_1.S.size : Int)))).bind
          fun (c : ByteArray) =>
          (getI l i).bind fun (z : X.U.T C.t24) =>
            if True then
              if PreSet (x :: xs) (y :: ys) then
                fnLoop X El an9 lp Try.f9 0 N
                  (mkS 40
                    [(0, TV.lst C.t24 l), (2, TV.ref 0 0 0),
                      (3, TV.v (Value.int IntKind.i64 (IntKind.i64.wrap (i + 1))))]
                    [TO.cells
                        [TV.v (Value.bool true), TV.lst C.str (cS (sK (x :: xs) c)),
                          TV.lst C.t33 (cV (sV (x :: xs) (y :: ys) c (valP z))), TV.v (Value.slice none 0 0)]
                        false]
                    0)
              else none
            else none
  else
    some
      (Exit.exit 0,
        mkS 40 [(2, TV.ref 0 0 0)]
          [TO.cells
              [TV.v (Value.bool true), TV.lst C.str (x :: xs), TV.lst C.t33 (y :: ys), TV.v (Value.slice none 0 0)]
              false]
          0)
else
  some
    (Exit.exit 0,
      mkS 40 [(2, TV.ref 0 0 0)]
        [TO.cells [TV.v (Value.bool true), TV.lst C.str (x :: xs), TV.lst C.t33 (y :: ys), TV.v (Value.slice none 0 0)]
            false]
        0) := by kernel_rfl
theorem nvL_cS {q : List ByteArray} (h : 0 < q.length) : (.lst .str (cS q) : TV U) = nvL .str q := by
  rw [cS_eq h]
  cases q with
  | nil => cases h
  | cons => rfl
theorem nvL_cV {q : List R33} (h : 0 < q.length) : (.lst .t33 (cV q) : TV U) = nvL .t33 q := by
  rw [cV_eq h]
  cases q with
  | nil => cases h
  | cons => rfl
theorem cut64 (z : R24) : cutB z.S none (some (if 64 < (↑z.S.size : Int) then 64 else (↑z.S.size : Int))) = some (keyP z) := cutB_min z.S 64
theorem round9 (lp : Lp U) (N : Nat) (l : List R24) {ks : List ByteArray} {vs : List R33} (hp : PreSet ks vs) {i : Int} (h0 : 0 ≤ i) (h1 : i < l.length) (h2 : i < 40) {z : R24} (hz : getI l i = some z) :
    fnLoop X El an9 lp Try.f9 0 (N + 1) (S9 l (nvL .str ks) (nvL .t33 vs) i) = fnLoop X El an9 lp Try.f9 0 N (S9 l (nvL .str (stL (ks, vs) z).1) (nvL .t33 (stL (ks, vs) z).2) (i + 1)) := by
  have hw : IntKind.i64.wrap (i + 1) = i + 1 := wr (by omega) (by omega)
  have hk := (sK_len ks (keyP z)).1
  have hv : 0 < (sV ks vs (keyP z) (valP z)).length := by rw [← sV_len hp.1]; exact hk
  have e1 := nvL_cS hk
  have e2 := nvL_cV hv
  show _ = fnLoop X El an9 lp Try.f9 0 N (S9 l (nvL .str (sK ks (keyP z))) (nvL .t33 (sV ks vs (keyP z) (valP z))) (i + 1))
  rw [← e1, ← e2]
  cases ks with
  | nil =>
    cases vs with
    | cons => cases hp.1
    | nil =>
      refine (r9n lp N l i).trans ?_
      rw [decide_eq_true h1, decide_eq_true h2, hz, cond_true, cond_true, Option.bind_some, Option.bind_some, cut64, Option.bind_some, Option.bind_some, if_pos trivial, if_pos hp, hw]
      rfl
  | cons x xs =>
    cases vs with
    | nil => cases hp.1
    | cons y ys =>
      refine (r9c lp N l x xs y ys i).trans ?_
      rw [decide_eq_true h1, decide_eq_true h2, hz, cond_true, cond_true, Option.bind_some, Option.bind_some, cut64, Option.bind_some, Option.bind_some, if_pos trivial, if_pos hp, hw]
      rfl
theorem out9 (lp : Lp U) (N : Nat) (l : List R24) {ks : List ByteArray} {vs : List R33} (hp : PreSet ks vs) {i : Int} (h1 : ¬ (i < l.length ∧ i < 40)) :
    fnLoop X El an9 lp Try.f9 0 (N + 1) (S9 l (nvL .str ks) (nvL .t33 vs) i) = some (.exit 0, E9 (nvL .str ks) (nvL .t33 vs)) := by
  cases ks with
  | nil =>
    cases vs with
    | cons => cases hp.1
    | nil =>
      refine (r9n lp N l i).trans ?_
      by_cases hl : i < l.length
      · rw [decide_eq_true hl, decide_eq_false (fun h => h1 ⟨hl, h⟩)]; rfl
      · rw [decide_eq_false hl]; rfl
  | cons x xs =>
    cases vs with
    | nil => cases hp.1
    | cons y ys =>
      refine (r9c lp N l x xs y ys i).trans ?_
      by_cases hl : i < l.length
      · rw [decide_eq_true hl, decide_eq_false (fun h => h1 ⟨hl, h⟩)]; rfl
      · rw [decide_eq_false hl]; rfl
/-- What a leaf of some keys has. -/
def lfP (l : List R24) : List ByteArray × List R33 := (l.take 40).foldl stL ([], [])
theorem fold_ok : ∀ (l : List R24) (c : List ByteArray × List R33) (n : Nat), PreSet c.1 c.2 → c.1.length ≤ n → n + l.length ≤ 999999 → PreSet (l.foldl stL c).1 (l.foldl stL c).2 ∧ (l.foldl stL c).1.length ≤ n + l.length
  | [], c, n, h, h1, h2 => ⟨h, by simpa using h1⟩
  | z :: l, c, n, h, h1, h2 => by
    rw [List.length_cons] at h2
    have hk := sK_len c.1 (keyP z)
    obtain ⟨a, b⟩ := fold_ok l (stL c z) (n + 1) (h.step (by omega)) (by show (sK c.1 (keyP z)).length ≤ _; omega) (by omega)
    rw [List.foldl_cons, List.length_cons]
    exact ⟨a, by omega⟩
theorem pre0 : PreSet [] [] := ⟨rfl, by simp, List.Pairwise.nil⟩
theorem lfP_ok (l : List R24) : PreSet (lfP l).1 (lfP l).2 ∧ (lfP l).1.length ≤ 40 := by
  have hl : (l.take 40).length ≤ 40 := by rw [List.length_take]; omega
  obtain ⟨a, b⟩ := fold_ok (l.take 40) ([], []) 0 pre0 (Nat.le_refl 0) (by omega)
  exact ⟨a, by unfold lfP; omega⟩
theorem rounds9 (lp : Lp U) (l : List R24) : ∀ (m : Nat) (c : List ByteArray × List R33) (i : Int) (n : Nat), 0 ≤ i → ((l.take 40).drop i.toNat).length ≤ m → PreSet c.1 c.2 → c.1.length ≤ n → n + ((l.take 40).drop i.toNat).length ≤ 999999 →
    fnLoop X El an9 lp Try.f9 0 (m + 1) (S9 l (nvL .str c.1) (nvL .t33 c.2) i) = some (.exit 0, E9 (nvL .str (((l.take 40).drop i.toNat).foldl stL c).1) (nvL .t33 (((l.take 40).drop i.toNat).foldl stL c).2)) := by
  intro m
  induction m with
  | zero =>
    intro c i n h0 hm hp hn hb
    have hd : (l.take 40).drop i.toNat = [] := List.eq_nil_of_length_eq_zero (by omega)
    rw [hd, List.foldl_nil]
    refine out9 lp 0 l hp fun ⟨k1, k2⟩ => ?_
    rw [List.length_drop, List.length_take] at hm
    omega
  | succ m ih =>
    intro c i n h0 hm hp hn hb
    by_cases hi : i < l.length ∧ i < 40
    · obtain ⟨z, hz, hz2⟩ := getE (l := l) h0 hi.1
      have hz3 : (l.take 40)[i.toNat]? = some z := by rw [List.getElem?_take, if_pos (by omega), hz2]
      have hlt := (List.getElem?_eq_some_iff.1 hz3).1
      have hd : (l.take 40).drop i.toNat = z :: (l.take 40).drop (i + 1).toNat := by
        rw [List.drop_eq_getElem_cons hlt, (List.getElem?_eq_some_iff.1 hz3).2, show (i + 1).toNat = i.toNat + 1 by omega]
      have hk := sK_len c.1 (keyP z)
      rw [hd, List.length_cons] at hm hb
      rw [round9 lp (m + 1) l hp h0 hi.1 hi.2 hz, hd, List.foldl_cons]
      exact ih (stL c z) (i + 1) (n + 1) (by omega) (by omega) (hp.step (by omega)) (by show (sK c.1 (keyP z)).length ≤ _; omega) (by omega)
    · have hd : (l.take 40).drop i.toNat = [] := List.drop_eq_nil_of_le (by rw [List.length_take]; omega)
      rw [hd, List.foldl_nil]
      exact out9 lp (m + 1) l hp hi
def dl9 (s : TS U) : Option (Bool × List R24 × Int) := match told s 40 [0, 2, 3] 0, s.objs with
  | some [a0, a1, a2], [o0] =>
    match o0 with
    | .cells [q0, q1, q2, q3] false =>
      match q0 with
      | .v (.bool b) =>
        match q1 with
        | .v (.slice none 0 0) =>
          match q2 with
          | .v (.slice none 0 0) =>
            match q3 with
            | .v (.slice none 0 0) =>
              match a0 with
              | .lst .t24 l =>
                match a1 with
                | .ref 0 0 0 =>
                  match a2 with
                  | .v (.int .i64 i) =>
                    some (b, l, i)
                  | _ => none
                | _ => none
              | _ => none
            | _ => none
          | _ => none
        | _ => none
      | _ => none
    | _ => none
  | _, _ => none
theorem dl9_ok {s : TS U} {b : Bool} {l : List R24} {i : Int} (h : dl9 s = some (b, l, i)) : s = mkS (U := U) 40 ([0, 2, 3].zip ([.lst .t24 l, .ref 0 0 0, .v (.int .i64 i)] : List (TV U))) ([.cells [.v (.bool b), .v (.slice none 0 0), .v (.slice none 0 0), .v (.slice none 0 0)] false] : List (TO U)) 0 := by
  unfold dl9 at h
  split at h <;> try (cases h; done)
  rename_i ht ho
  have hs := told_ok ht
  rw [ho] at hs
  repeat' split at h
  all_goals first | (cases h; done) | (cases h; exact hs)
def P9 (b : Bool) (i : Int) : Prop := b = true ∧ i = 0
instance (b : Bool) (i : Int) : Decidable (P9 b i) := by unfold P9; infer_instance
def lc9 : LC U := .of2 dl9 (fun (b, l, i) => P9 b i) (fun (b, l, i) => (lfP l).1.isEmpty) (.exit 0) (fun _ => E9 nlv nlv) (.exit 0) fun (b, l, i) => E9 (.lst .str (cS (lfP l).1)) (.lst .t33 (cV (lfP l).2))
def lp9 : Lp U := lpL [(0, lc9)]
theorem lp9_ok : ∀ c, Try.f9.body = some c → LpOk X El an9 lp9 (loops c 0) := lpL_ok (by kernel_rfl) fun b L hm st p hs => by
  cases hm with
  | head =>
    obtain ⟨⟨b, l, i⟩, hx, ⟨rfl, rfl⟩, rfl⟩ := LC.of2_some hs
    obtain rfl := dl9_ok hx
    refine ⟨_, (rounds9 _ l _ ([], []) 0 0 (Int.le_refl 0) (Nat.le_refl _) pre0 (Nat.le_refl 0) (by rw [List.length_drop, List.length_take]; omega)).trans ?_⟩
    obtain ⟨h1, h2⟩ := lfP_ok l
    have hd : (l.take 40).drop (0 : Int).toNat = l.take 40 := rfl
    rw [hd]
    show some (Exit.exit 0, E9 (nvL .str (lfP l).1) (nvL .t33 (lfP l).2)) = _
    dsimp only
    have h3 := h1.1
    cases hq : (lfP l).1 with
    | nil =>
      rw [hq] at h3
      rw [List.eq_nil_of_length_eq_zero (l := (lfP l).2) h3.symm]
      rfl
    | cons x xs =>
      rw [hq] at h3
      rw [← nvL_cS (q := x :: xs) (by simp), ← nvL_cV (q := (lfP l).2) (by rw [← h3]; simp)]
      rfl
  | tail _ hm => cases hm
theorem e9 (l : List
  R24) : (evFn X El an9 lp9 Try.f9 [] [TV.lst C.t24 l] fun (o : List (TO X.U)) (v : TV X.U) => some (o, v)) =
  if P9 true 0 then
  bif (lfP l).fst.isEmpty then
    some
      ([],
        TV.agg
          [TV.v (Value.bool true), TV.v (Value.slice none 0 0), TV.v (Value.slice none 0 0),
            TV.v (Value.slice none 0 0)])
  else
    some
      ([],
        TV.agg
          [TV.v (Value.bool true), TV.lst C.str (cS (lfP l).fst), TV.lst C.t33 (cV (lfP l).snd),
            TV.v (Value.slice none 0 0)])
else none := by kernel_rfl
def dL24 (objs : List (TO U)) (args : List (TV U)) : Option (List R24) := match objs, args with
  | [], [a0] =>
    match a0 with
    | .lst .t24 l =>
      some l
    | _ => none
  | _, _ => none
theorem dL24_ok {objs : List (TO U)} {args : List (TV U)} {l : List R24} (h : dL24 objs args = some l) : objs = [] ∧ args = [.lst .t24 l] := by
  unfold dL24 at h
  repeat' split at h
  all_goals first | (cases h; done) | (cases h; exact ⟨rfl, rfl⟩)
def sLeaf : Spc U := .of2 dL24 (fun _ => True) (fun l => (lfP l).1.isEmpty) (fun _ => []) (fun _ => .agg [.v (.bool true), nlv, nlv, nlv]) (fun _ => []) fun l => .agg [.v (.bool true), .lst .str (cS (lfP l).1), .lst .t33 (cV (lfP l).2), nlv]
theorem sLeaf_ok : SpecOk Try.prog 9 sLeaf := by
  refine fn_ok2 X_ok mixed El_ok an9 lp9 Try.func9 (by kernel_rfl) (by kernel_rfl) lp9_ok fun objs args l hx hp => ?_
  obtain ⟨rfl, rfl⟩ := dL24_ok hx
  refine (e9 l).trans ?_
  rw [if_pos ⟨rfl, rfl⟩]
  cases (lfP l).1.isEmpty <;> rfl
end Go.Proofs.Ytmcflglkfgnbbaa.Nd

/- A node as the document's; two of them alike. -/
namespace Go.Proofs.Ytmcflglkfgnbbaa.Nd
open Go Go.RowKit Go.Proofs.Ytmcflglkfgnbbaa.Eng
set_option linter.unusedVariables false
set_option linter.unusedSimpArgs false
set_option maxRecDepth 20000
def an17 : Ann := ⟨fun | 0 => 30 | _ => 0, fun | 0 => 12 | _ => 0, fun _ => [], false⟩
def an16 : Ann := ⟨fun | 0 => 44 | 2 => 76 | 4 => 140 | _ => 0, fun | 0 => 28 | 2 => 28 | 4 => 16 | _ => 0, fun _ => [], false⟩
/-- A node as the document has it. -/
structure N4 where
  L : Bool
  K : List ByteArray
  V : List R83
  I : List Int
def N4.ob (n : N4) : TO U := .cells [.v (.bool n.L), .lst .str n.K, .lst .t83 n.V, .lst .i64 n.I] false
def N4.tv (n : N4) : TV U := .agg [.v (.bool n.L), .lst .str n.K, .lst .t83 n.V, .lst .i64 n.I]
def S16 (t : Nat) (n m : N4) (i : Int) : TS U := mkS 94 [(2, .ref 0 0 0), (3, .ref 1 0 0), (t, .v (.int .i64 i))] [n.ob, m.ob] 0
theorem r16a (lp : Lp U) (N : Nat) (n : N4) (m : N4) (i : Int) : (fnLoop X E0 an16 lp Try.f16 0 N.succ (S16 5 n m i)) =
  bif decide (i < (↑n.K.length : Int)) then
  (getI n.K i).bind fun (z : X.U.T C.str) =>
    (getI m.K i).bind fun (z_1 : X.U.T C.str) =>
      bif !ByteArray.toList z == ByteArray.toList z_1 then
        some (Exit.ret, mkS 94 [(2, TV.ref 0 0 0), (3, TV.ref 1 0 0), (4, TV.v (Value.bool false))] [n.ob, m.ob] 0)
      else
        fnLoop X E0 an16 lp Try.f16 0 N
          (mkS 94 [(2, TV.ref 0 0 0), (3, TV.ref 1 0 0), (5, TV.v (Value.int IntKind.i64 (IntKind.i64.wrap (i + 1))))]
            [n.ob, m.ob] 0)
else some (Exit.exit 0, mkS 94 [(2, TV.ref 0 0 0), (3, TV.ref 1 0 0)] [n.ob, m.ob] 0) := by kernel_rfl
theorem r16b (lp : Lp U) (N : Nat) (n : N4) (m : N4) (i : Int) : (fnLoop X E0 an16 lp Try.f16 2 N.succ (S16 6 n m i)) =
  bif decide (i < (↑n.V.length : Int)) then
  (getI n.V i).bind fun (z : X.U.T C.t83) =>
    (getI m.V i).bind fun (z_1 : X.U.T C.t83) =>
      bif !(z.Data.toList == z_1.Data.toList && (decide (z.Page = z_1.Page) && (decide (z.Len = z_1.Len) && true))) then
        some (Exit.ret, mkS 94 [(2, TV.ref 0 0 0), (3, TV.ref 1 0 0), (4, TV.v (Value.bool false))] [n.ob, m.ob] 0)
      else
        fnLoop X E0 an16 lp Try.f16 2 N
          (mkS 94 [(2, TV.ref 0 0 0), (3, TV.ref 1 0 0), (6, TV.v (Value.int IntKind.i64 (IntKind.i64.wrap (i + 1))))]
            [n.ob, m.ob] 0)
else some (Exit.exit 2, mkS 94 [(2, TV.ref 0 0 0), (3, TV.ref 1 0 0)] [n.ob, m.ob] 0) := by kernel_rfl
theorem r16c (lp : Lp U) (N : Nat) (n : N4) (m : N4) (i : Int) : (fnLoop X E0 an16 lp Try.f16 4 N.succ (S16 7 n m i)) =
  bif decide (i < (↑n.I.length : Int)) then
  (getI n.I i).bind fun (z : X.U.T C.i64) =>
    (getI m.I i).bind fun (z_1 : X.U.T C.i64) =>
      bif !decide (z = z_1) then some (Exit.ret, mkS 94 [(4, TV.v (Value.bool false))] [] 0)
      else
        fnLoop X E0 an16 lp Try.f16 4 N
          (mkS 94 [(2, TV.ref 0 0 0), (3, TV.ref 1 0 0), (7, TV.v (Value.int IntKind.i64 (IntKind.i64.wrap (i + 1))))]
            [n.ob, m.ob] 0)
else some (Exit.exit 4, mkS 94 [] [] 0) := by kernel_rfl
/-- What is appended so far: no row yet, or one. -/
def S17 (b : Bool) (ks : List ByteArray) (vs : List R33) (ki : List Int) (a : TV U) (r : List (TO U)) (i : Int) : TS U := mkS 30 [(1, .ref 0 0 0), (2, .ref 1 0 0), (3, .ref 2 0 0), (4, .v (.int .i64 i))] ([.cells [.v (.bool b), .lst .str ks, .lst .t33 vs, .lst .i64 ki] false, .cells [.v (.bool false), nlv, nlv, nlv] false, .cells [.v (.bool b), .lst .str ks, a, .lst .i64 ki] false] ++ r) 0
theorem r17n (lp : Lp
  U) (N : Nat) (b : Bool) (ks : List
  ByteArray) (vs : List
  R33) (ki : List Int) (i : Int) : (fnLoop X E0 an17 lp Try.f17 0 N.succ (S17 b ks vs ki nlv [] i)) =
  bif decide (i < (↑vs.length : Int)) then
  (getI vs i).bind fun (z : X.U.T C.t33) =>
    if 1 * 32 ≤ 140737488355328 then
      fnLoop X E0 an17 lp Try.f17 0 N
        (mkS 30
          [(1, TV.ref 0 0 0), (2, TV.ref 1 0 0), (3, TV.ref 2 0 0),
            (4, TV.v (Value.int IntKind.i64 (IntKind.i64.wrap (i + 1))))]
          [TO.cells [TV.v (Value.bool b), TV.lst C.str ks, TV.lst C.t33 vs, TV.lst C.i64 ki] false,
            TO.cells
              [TV.v (Value.bool false), TV.v (Value.slice none 0 0), TV.v (Value.slice none 0 0),
                TV.v (Value.slice none 0 0)]
              false,
            TO.cells [TV.v (Value.bool b), TV.lst C.str ks, TV.full 3, TV.lst C.i64 ki] false,
            TO.row C.t83 [{ Data := z.Data, Page := z.Page, Len := z.Len }] false]
          0)
    else none
else
  some
    (Exit.exit 0,
      mkS 30 [(2, TV.ref 0 0 0), (3, TV.ref 1 0 0)]
        [TO.cells
            [TV.v (Value.bool false), TV.v (Value.slice none 0 0), TV.v (Value.slice none 0 0),
              TV.v (Value.slice none 0 0)]
            false,
          TO.cells [TV.v (Value.bool b), TV.lst C.str ks, TV.v (Value.slice none 0 0), TV.lst C.i64 ki] false]
        0) := by kernel_rfl
theorem r17c (lp : Lp
  U) (N : Nat) (b : Bool) (ks : List
  ByteArray) (vs : List
  R33) (ki : List
  Int) (us : List
  R83) (i : Int) : (fnLoop X E0 an17 lp Try.f17 0 N.succ (S17 b ks vs ki (TV.full 3) [TO.row C.t83 us false] i)) =
  bif decide (i < (↑vs.length : Int)) then
  (getI vs i).bind fun (z : X.U.T C.t33) =>
    if (us.length + 1) * 32 ≤ 140737488355328 then
      fnLoop X E0 an17 lp Try.f17 0 N
        (mkS 30
          [(1, TV.ref 0 0 0), (2, TV.ref 1 0 0), (3, TV.ref 2 0 0),
            (4, TV.v (Value.int IntKind.i64 (IntKind.i64.wrap (i + 1))))]
          [TO.cells [TV.v (Value.bool b), TV.lst C.str ks, TV.lst C.t33 vs, TV.lst C.i64 ki] false,
            TO.cells
              [TV.v (Value.bool false), TV.v (Value.slice none 0 0), TV.v (Value.slice none 0 0),
                TV.v (Value.slice none 0 0)]
              false,
            TO.cells [TV.v (Value.bool b), TV.lst C.str ks, TV.full 3, TV.lst C.i64 ki] false,
            TO.row C.t83 (us ++ [{ Data := z.Data, Page := z.Page, Len := z.Len }]) false]
          0)
    else none
else
  some
    (Exit.exit 0,
      mkS 30 [(2, TV.ref 0 0 0), (3, TV.ref 1 0 0)]
        [TO.cells
            [TV.v (Value.bool false), TV.v (Value.slice none 0 0), TV.v (Value.slice none 0 0),
              TV.v (Value.slice none 0 0)]
            false,
          TO.cells [TV.v (Value.bool b), TV.lst C.str ks, TV.full 2, TV.lst C.i64 ki] false, TO.row C.t83 us false]
        0) := by kernel_rfl
theorem rounds16a (lp : Lp U) (n : N4) (hl : n.K.length ≤ 1000000000) : ∀ (N : Nat) (i : Int), 0 ≤ i → (n.K.length : Int) ≤ i + N → fnLoop X E0 an16 lp Try.f16 0 (N + 1) (S16 5 n n i) = some (.exit 0, mkS 94 [(2, .ref 0 0 0), (3, .ref 1 0 0)] [n.ob, n.ob] 0) := by
  intro N
  induction N with
  | zero => intro i h0 h1; rw [r16a, decide_eq_false (by omega)]; rfl
  | succ N ih =>
    intro i h0 h1
    by_cases hi : i < (n.K.length : Int)
    · obtain ⟨z, hz, _⟩ := getE (l := n.K) h0 hi
      rw [r16a, decide_eq_true hi, hz]
      have hw : IntKind.i64.wrap (i + 1) = i + 1 := wr (by omega) (by omega)
      simp only [Option.bind_some, cond_true, beq_self_eq_true, decide_true, Bool.and_true, Bool.not_true, cond_false, hw]
      exact ih (i + 1) (by omega) (by omega)
    · rw [r16a, decide_eq_false hi]; rfl
def dl16a (s : TS U) : Option (N4 × N4 × Int) := match told s 94 [2, 3, 5] 0, s.objs with
  | some [a0, a1, a2], [o0, o1] =>
    match o0 with
    | .cells [q0, q1, q2, q3] false =>
      match q0 with
      | .v (.bool n_L) =>
        match q1 with
        | .lst .str n_K =>
          match q2 with
          | .lst .t83 n_V =>
            match q3 with
            | .lst .i64 n_I =>
              match o1 with
              | .cells [q4, q5, q6, q7] false =>
                match q4 with
                | .v (.bool m_L) =>
                  match q5 with
                  | .lst .str m_K =>
                    match q6 with
                    | .lst .t83 m_V =>
                      match q7 with
                      | .lst .i64 m_I =>
                        match a0 with
                        | .ref 0 0 0 =>
                          match a1 with
                          | .ref 1 0 0 =>
                            match a2 with
                            | .v (.int .i64 i) =>
                              some ((⟨n_L, n_K, n_V, n_I⟩ : N4), (⟨m_L, m_K, m_V, m_I⟩ : N4), i)
                            | _ => none
                          | _ => none
                        | _ => none
                      | _ => none
                    | _ => none
                  | _ => none
                | _ => none
              | _ => none
            | _ => none
          | _ => none
        | _ => none
      | _ => none
    | _ => none
  | _, _ => none
theorem dl16a_ok {s : TS U} {n : N4} {m : N4} {i : Int} (h : dl16a s = some (n, m, i)) : s = mkS (U := U) 94 ([2, 3, 5].zip ([.ref 0 0 0, .ref 1 0 0, .v (.int .i64 i)] : List (TV U))) ([n.ob, m.ob] : List (TO U)) 0 := by
  unfold dl16a at h
  split at h <;> try (cases h; done)
  rename_i ht ho
  have hs := told_ok ht
  rw [ho] at hs
  repeat' split at h
  all_goals first | (cases h; done) | (cases h; exact hs)
theorem rounds16b (lp : Lp U) (n : N4) (hl : n.V.length ≤ 1000000000) : ∀ (N : Nat) (i : Int), 0 ≤ i → (n.V.length : Int) ≤ i + N → fnLoop X E0 an16 lp Try.f16 2 (N + 1) (S16 6 n n i) = some (.exit 2, mkS 94 [(2, .ref 0 0 0), (3, .ref 1 0 0)] [n.ob, n.ob] 0) := by
  intro N
  induction N with
  | zero => intro i h0 h1; rw [r16b, decide_eq_false (by omega)]; rfl
  | succ N ih =>
    intro i h0 h1
    by_cases hi : i < (n.V.length : Int)
    · obtain ⟨z, hz, _⟩ := getE (l := n.V) h0 hi
      rw [r16b, decide_eq_true hi, hz]
      have hw : IntKind.i64.wrap (i + 1) = i + 1 := wr (by omega) (by omega)
      simp only [Option.bind_some, cond_true, beq_self_eq_true, decide_true, Bool.and_true, Bool.not_true, cond_false, hw]
      exact ih (i + 1) (by omega) (by omega)
    · rw [r16b, decide_eq_false hi]; rfl
def dl16b (s : TS U) : Option (N4 × N4 × Int) := match told s 94 [2, 3, 6] 0, s.objs with
  | some [a0, a1, a2], [o0, o1] =>
    match o0 with
    | .cells [q0, q1, q2, q3] false =>
      match q0 with
      | .v (.bool n_L) =>
        match q1 with
        | .lst .str n_K =>
          match q2 with
          | .lst .t83 n_V =>
            match q3 with
            | .lst .i64 n_I =>
              match o1 with
              | .cells [q4, q5, q6, q7] false =>
                match q4 with
                | .v (.bool m_L) =>
                  match q5 with
                  | .lst .str m_K =>
                    match q6 with
                    | .lst .t83 m_V =>
                      match q7 with
                      | .lst .i64 m_I =>
                        match a0 with
                        | .ref 0 0 0 =>
                          match a1 with
                          | .ref 1 0 0 =>
                            match a2 with
                            | .v (.int .i64 i) =>
                              some ((⟨n_L, n_K, n_V, n_I⟩ : N4), (⟨m_L, m_K, m_V, m_I⟩ : N4), i)
                            | _ => none
                          | _ => none
                        | _ => none
                      | _ => none
                    | _ => none
                  | _ => none
                | _ => none
              | _ => none
            | _ => none
          | _ => none
        | _ => none
      | _ => none
    | _ => none
  | _, _ => none
theorem dl16b_ok {s : TS U} {n : N4} {m : N4} {i : Int} (h : dl16b s = some (n, m, i)) : s = mkS (U := U) 94 ([2, 3, 6].zip ([.ref 0 0 0, .ref 1 0 0, .v (.int .i64 i)] : List (TV U))) ([n.ob, m.ob] : List (TO U)) 0 := by
  unfold dl16b at h
  split at h <;> try (cases h; done)
  rename_i ht ho
  have hs := told_ok ht
  rw [ho] at hs
  repeat' split at h
  all_goals first | (cases h; done) | (cases h; exact hs)
theorem rounds16c (lp : Lp U) (n : N4) (hl : n.I.length ≤ 1000000000) : ∀ (N : Nat) (i : Int), 0 ≤ i → (n.I.length : Int) ≤ i + N → fnLoop X E0 an16 lp Try.f16 4 (N + 1) (S16 7 n n i) = some (.exit 4, mkS 94 [] [] 0) := by
  intro N
  induction N with
  | zero => intro i h0 h1; rw [r16c, decide_eq_false (by omega)]; rfl
  | succ N ih =>
    intro i h0 h1
    by_cases hi : i < (n.I.length : Int)
    · obtain ⟨z, hz, _⟩ := getE (l := n.I) h0 hi
      rw [r16c, decide_eq_true hi, hz]
      have hw : IntKind.i64.wrap (i + 1) = i + 1 := wr (by omega) (by omega)
      simp only [Option.bind_some, cond_true, beq_self_eq_true, decide_true, Bool.and_true, Bool.not_true, cond_false, hw]
      exact ih (i + 1) (by omega) (by omega)
    · rw [r16c, decide_eq_false hi]; rfl
def dl16c (s : TS U) : Option (N4 × N4 × Int) := match told s 94 [2, 3, 7] 0, s.objs with
  | some [a0, a1, a2], [o0, o1] =>
    match o0 with
    | .cells [q0, q1, q2, q3] false =>
      match q0 with
      | .v (.bool n_L) =>
        match q1 with
        | .lst .str n_K =>
          match q2 with
          | .lst .t83 n_V =>
            match q3 with
            | .lst .i64 n_I =>
              match o1 with
              | .cells [q4, q5, q6, q7] false =>
                match q4 with
                | .v (.bool m_L) =>
                  match q5 with
                  | .lst .str m_K =>
                    match q6 with
                    | .lst .t83 m_V =>
                      match q7 with
                      | .lst .i64 m_I =>
                        match a0 with
                        | .ref 0 0 0 =>
                          match a1 with
                          | .ref 1 0 0 =>
                            match a2 with
                            | .v (.int .i64 i) =>
                              some ((⟨n_L, n_K, n_V, n_I⟩ : N4), (⟨m_L, m_K, m_V, m_I⟩ : N4), i)
                            | _ => none
                          | _ => none
                        | _ => none
                      | _ => none
                    | _ => none
                  | _ => none
                | _ => none
              | _ => none
            | _ => none
          | _ => none
        | _ => none
      | _ => none
    | _ => none
  | _, _ => none
theorem dl16c_ok {s : TS U} {n : N4} {m : N4} {i : Int} (h : dl16c s = some (n, m, i)) : s = mkS (U := U) 94 ([2, 3, 7].zip ([.ref 0 0 0, .ref 1 0 0, .v (.int .i64 i)] : List (TV U))) ([n.ob, m.ob] : List (TO U)) 0 := by
  unfold dl16c at h
  split at h <;> try (cases h; done)
  rename_i ht ho
  have hs := told_ok ht
  rw [ho] at hs
  repeat' split at h
  all_goals first | (cases h; done) | (cases h; exact hs)
def P16 (n m : N4) (i : Int) : Prop := n = m ∧ i = 0 ∧ n.K.length ≤ 1000000000 ∧ n.V.length ≤ 1000000000 ∧ n.I.length ≤ 1000000000
noncomputable instance (n m : N4) (i : Int) : Decidable (P16 n m i) := Classical.propDecidable _
noncomputable def lc16a : LC U := .of dl16a (fun (n, m, i) => P16 n m i) (.exit 0) fun (n, m, i) => mkS 94 [(2, .ref 0 0 0), (3, .ref 1 0 0)] [n.ob, m.ob] 0
noncomputable def lc16b : LC U := .of dl16b (fun (n, m, i) => P16 n m i) (.exit 2) fun (n, m, i) => mkS 94 [(2, .ref 0 0 0), (3, .ref 1 0 0)] [n.ob, m.ob] 0
noncomputable def lc16c : LC U := .of dl16c (fun (n, m, i) => P16 n m i) (.exit 4) fun (n, m, i) => mkS 94 [] [] 0
noncomputable def lp16 : Lp U := lpL [(0, lc16a), (2, lc16b), (4, lc16c)]
theorem lp16_ok : ∀ c, Try.f16.body = some c → LpOk X E0 an16 lp16 (loops c 0) := lpL_ok (by kernel_rfl) fun b L hm st p hs => by
  cases hm with
  | head =>
    obtain ⟨⟨n, m, i⟩, hx, ⟨rfl, rfl, h1, h2, h3⟩, rfl⟩ := LC.of_some hs
    obtain rfl := dl16a_ok hx
    exact ⟨_, rounds16a _ n h1 n.K.length 0 (Int.le_refl 0) (by omega)⟩
  | tail _ hm => cases hm with
    | head =>
      obtain ⟨⟨n, m, i⟩, hx, ⟨rfl, rfl, h1, h2, h3⟩, rfl⟩ := LC.of_some hs
      obtain rfl := dl16b_ok hx
      exact ⟨_, rounds16b _ n h2 n.V.length 0 (Int.le_refl 0) (by omega)⟩
    | tail _ hm => cases hm with
      | head =>
        obtain ⟨⟨n, m, i⟩, hx, ⟨rfl, rfl, h1, h2, h3⟩, rfl⟩ := LC.of_some hs
        obtain rfl := dl16c_ok hx
        exact ⟨_, rounds16c _ n h3 n.I.length 0 (Int.le_refl 0) (by omega)⟩
      | tail _ hm => cases hm
theorem e16 (n : N4) (m : N4) : (evFn X E0 an16 lp16 Try.f16 [] [n.tv, m.tv] fun (o : List (TO X.U)) (v : TV X.U) =>
  some (o, v)) =
  bif !n.L == m.L then some ([], TV.v (Value.bool false))
else
  bif !decide ((↑n.K.length : Int) = (↑m.K.length : Int)) then some ([], TV.v (Value.bool false))
  else
    bif !decide ((↑n.V.length : Int) = (↑m.V.length : Int)) then some ([], TV.v (Value.bool false))
    else
      bif !decide ((↑n.I.length : Int) = (↑m.I.length : Int)) then some ([], TV.v (Value.bool false))
      else
        if P16 n m 0 then if P16 n m 0 then if P16 n m 0 then some ([], TV.v (Value.bool true)) else none else none
        else none := by kernel_rfl
def dNN (objs : List (TO U)) (args : List (TV U)) : Option (N4 × N4) := match objs, args with
  | [], [a0, a1] =>
    match a0 with
    | .agg [q0, q1, q2, q3] =>
      match q0 with
      | .v (.bool n_L) =>
        match q1 with
        | .lst .str n_K =>
          match q2 with
          | .lst .t83 n_V =>
            match q3 with
            | .lst .i64 n_I =>
              match a1 with
              | .agg [q4, q5, q6, q7] =>
                match q4 with
                | .v (.bool m_L) =>
                  match q5 with
                  | .lst .str m_K =>
                    match q6 with
                    | .lst .t83 m_V =>
                      match q7 with
                      | .lst .i64 m_I =>
                        some ((⟨n_L, n_K, n_V, n_I⟩ : N4), (⟨m_L, m_K, m_V, m_I⟩ : N4))
                      | _ => none
                    | _ => none
                  | _ => none
                | _ => none
              | _ => none
            | _ => none
          | _ => none
        | _ => none
      | _ => none
    | _ => none
  | _, _ => none
theorem dNN_ok {objs : List (TO U)} {args : List (TV U)} {n : N4} {m : N4} (h : dNN objs args = some (n, m)) : objs = [] ∧ args = [n.tv, m.tv] := by
  unfold dNN at h
  repeat' split at h
  all_goals first | (cases h; done) | (cases h; exact ⟨rfl, rfl⟩)
noncomputable def sSame : Spc U := .of dNN (fun (n, m) => P16 n m 0) (fun _ => []) fun _ => .v (.bool true)
theorem sSame_ok : SpecOk Try.prog 16 sSame := by
  refine fn_ok X_ok mixed E0_ok an16 lp16 Try.func16 (by kernel_rfl) (by kernel_rfl) lp16_ok fun objs args x hx hp => ?_
  obtain ⟨n, m⟩ := x
  obtain ⟨rfl, rfl⟩ := dNN_ok hx
  have hp' := hp
  obtain ⟨rfl, _⟩ := hp'
  refine (e16 n n).trans ?_
  dsimp only at hp
  have hb : (n.L == n.L) = true := by cases n.L <;> rfl
  simp only [hb, decide_true, Bool.not_true, cond_false, if_pos hp]
/-! ### A node as the document's -/
def cvR (v : R33) : R83 := ⟨v.Data, v.Page, v.Len⟩
def rowU : List R83 → List (TO U)
  | [] => []
  | x :: l => [.row .t83 (x :: l) false]
def nvU : List R83 → Nat → TV U
  | [], _ => nlv
  | _ :: _, k => .full k
theorem round17 (lp : Lp U) (N : Nat) (b : Bool) (ks : List ByteArray) (vs : List R33) (ki : List Int) (us : List R83) (i : Int) (h0 : 0 ≤ i) (h1 : i < vs.length) (hb : us.length ≤ 1000000000) (hi : i ≤ 1000000000) {z : R33} (hz : getI vs i = some z) :
    fnLoop X E0 an17 lp Try.f17 0 (N + 1) (S17 b ks vs ki (nvU us 3) (rowU us) i) = fnLoop X E0 an17 lp Try.f17 0 N (S17 b ks vs ki (nvU (us ++ [cvR z]) 3) (rowU (us ++ [cvR z])) (i + 1)) := by
  have hw : IntKind.i64.wrap (i + 1) = i + 1 := wr (by omega) (by omega)
  cases us with
  | nil =>
    refine (r17n lp N b ks vs ki i).trans ?_
    rw [decide_eq_true h1, hz, cond_true, Option.bind_some, if_pos (by decide), hw]
    rfl
  | cons u us =>
    refine (r17c lp N b ks vs ki (u :: us) i).trans ?_
    rw [decide_eq_true h1, hz, cond_true, Option.bind_some, if_pos (by omega), hw]
    rfl
def E17 (b : Bool) (ks : List ByteArray) (ki : List Int) (us : List R83) : TS U := mkS 30 [(2, .ref 0 0 0), (3, .ref 1 0 0)] ([.cells [.v (.bool false), nlv, nlv, nlv] false, .cells [.v (.bool b), .lst .str ks, nvU us 2, .lst .i64 ki] false] ++ rowU us) 0
theorem out17 (lp : Lp U) (N : Nat) (b : Bool) (ks : List ByteArray) (vs : List R33) (ki : List Int) (us : List R83) (i : Int) (h1 : ¬ i < vs.length) : fnLoop X E0 an17 lp Try.f17 0 (N + 1) (S17 b ks vs ki (nvU us 3) (rowU us) i) = some (.exit 0, E17 b ks ki us) := by
  cases us with
  | nil => refine (r17n lp N b ks vs ki i).trans ?_; rw [decide_eq_false h1]; rfl
  | cons u us => refine (r17c lp N b ks vs ki (u :: us) i).trans ?_; rw [decide_eq_false h1]; rfl
theorem rounds17 (lp : Lp U) (b : Bool) (ks : List ByteArray) (vs : List R33) (ki : List Int) (hv : vs.length ≤ 1000000000) : ∀ (N : Nat) (us : List R83) (i : Int), 0 ≤ i → (vs.length : Int) ≤ i + N → us.length + N ≤ 1000000000 + 1 → (us.length : Int) ≤ i →
    fnLoop X E0 an17 lp Try.f17 0 (N + 1) (S17 b ks vs ki (nvU us 3) (rowU us) i) = some (.exit 0, E17 b ks ki (us ++ (vs.drop i.toNat).map cvR)) := by
  intro N
  induction N with
  | zero =>
    intro us i h0 h1 h2 h3
    rw [List.drop_eq_nil_of_le (by omega), List.map_nil, List.append_nil]
    exact out17 lp 0 b ks vs ki us i (by omega)
  | succ N ih =>
    intro us i h0 h1 h2 h3
    by_cases hi : i < (vs.length : Int)
    · obtain ⟨z, hz, hz2⟩ := getE (l := vs) h0 hi
      have hlt := (List.getElem?_eq_some_iff.1 hz2).1
      have hd : vs.drop i.toNat = z :: vs.drop (i + 1).toNat := by
        rw [List.drop_eq_getElem_cons hlt, (List.getElem?_eq_some_iff.1 hz2).2, show (i + 1).toNat = i.toNat + 1 by omega]
      rw [round17 lp (N + 1) b ks vs ki us i h0 hi (by omega) (by omega) hz, hd, List.map_cons]
      have := ih (us ++ [cvR z]) (i + 1) (by omega) (by omega) (by simp; omega) (by simp; omega)
      rw [List.append_assoc, List.singleton_append] at this
      exact this
    · rw [List.drop_eq_nil_of_le (by omega), List.map_nil, List.append_nil]
      exact out17 lp (N + 1) b ks vs ki us i hi
def dl17 (s : TS U) : Option (Bool × List ByteArray × List R33 × List Int × Bool × Bool × List ByteArray × List Int × Int) := match told s 30 [1, 2, 3, 4] 0, s.objs with
  | some [a0, a1, a2, a3], [o0, o1, o2] =>
    match o0 with
    | .cells [q0, q1, q2, q3] false =>
      match q0 with
      | .v (.bool b) =>
        match q1 with
        | .lst .str ks =>
          match q2 with
          | .lst .t33 vs =>
            match q3 with
            | .lst .i64 ki =>
              match o1 with
              | .cells [q4, q5, q6, q7] false =>
                match q4 with
                | .v (.bool b0) =>
                  match q5 with
                  | .v (.slice none 0 0) =>
                    match q6 with
                    | .v (.slice none 0 0) =>
                      match q7 with
                      | .v (.slice none 0 0) =>
                        match o2 with
                        | .cells [q8, q9, q10, q11] false =>
                          match q8 with
                          | .v (.bool b2) =>
                            match q9 with
                            | .lst .str ks2 =>
                              match q10 with
                              | .v (.slice none 0 0) =>
                                match q11 with
                                | .lst .i64 ki2 =>
                                  match a0 with
                                  | .ref 0 0 0 =>
                                    match a1 with
                                    | .ref 1 0 0 =>
                                      match a2 with
                                      | .ref 2 0 0 =>
                                        match a3 with
                                        | .v (.int .i64 i) =>
                                          some (b, ks, vs, ki, b0, b2, ks2, ki2, i)
                                        | _ => none
                                      | _ => none
                                    | _ => none
                                  | _ => none
                                | _ => none
                              | _ => none
                            | _ => none
                          | _ => none
                        | _ => none
                      | _ => none
                    | _ => none
                  | _ => none
                | _ => none
              | _ => none
            | _ => none
          | _ => none
        | _ => none
      | _ => none
    | _ => none
  | _, _ => none
theorem dl17_ok {s : TS U} {b : Bool} {ks : List ByteArray} {vs : List R33} {ki : List Int} {b0 : Bool} {b2 : Bool} {ks2 : List ByteArray} {ki2 : List Int} {i : Int} (h : dl17 s = some (b, ks, vs, ki, b0, b2, ks2, ki2, i)) : s = mkS (U := U) 30 ([1, 2, 3, 4].zip ([.ref 0 0 0, .ref 1 0 0, .ref 2 0 0, .v (.int .i64 i)] : List (TV U))) ([.cells [.v (.bool b), .lst .str ks, .lst .t33 vs, .lst .i64 ki] false, .cells [.v (.bool b0), .v (.slice none 0 0), .v (.slice none 0 0), .v (.slice none 0 0)] false, .cells [.v (.bool b2), .lst .str ks2, .v (.slice none 0 0), .lst .i64 ki2] false] : List (TO U)) 0 := by
  unfold dl17 at h
  split at h <;> try (cases h; done)
  rename_i ht ho
  have hs := told_ok ht
  rw [ho] at hs
  repeat' split at h
  all_goals first | (cases h; done) | (cases h; exact hs)
def P17 (b b0 b2 : Bool) (ks ks2 : List ByteArray) (ki ki2 : List Int) (n : Nat) (i : Int) : Prop := b = b2 ∧ b0 = false ∧ ks = ks2 ∧ ki = ki2 ∧ i = 0 ∧ n ≤ 1000000000
noncomputable instance (b b0 b2 : Bool) (ks ks2 : List ByteArray) (ki ki2 : List Int) (n : Nat) (i : Int) : Decidable (P17 b b0 b2 ks ks2 ki ki2 n i) := Classical.propDecidable _
noncomputable def lc17 : LC U := .of2 dl17 (fun (b, ks, vs, ki, b0, b2, ks2, ki2, i) => P17 b b0 b2 ks ks2 ki ki2 vs.length i) (fun (b, ks, vs, ki, b0, b2, ks2, ki2, i) => vs.isEmpty)
  (.exit 0) (fun (b, ks, vs, ki, b0, b2, ks2, ki2, i) => E17 b ks ki []) (.exit 0) fun (b, ks, vs, ki, b0, b2, ks2, ki2, i) => mkS 30 [(2, .ref 0 0 0), (3, .ref 1 0 0)] [.cells [.v (.bool false), nlv, nlv, nlv] false, .cells [.v (.bool b), .lst .str ks, .full 2, .lst .i64 ki] false, .row .t83 (vs.map cvR) false] 0
noncomputable def lp17 : Lp U := lpL [(0, lc17)]
theorem lp17_ok : ∀ c, Try.f17.body = some c → LpOk X E0 an17 lp17 (loops c 0) := lpL_ok (by kernel_rfl) fun b L hm st p hs => by
  cases hm with
  | head =>
    obtain ⟨⟨b, ks, vs, ki, b0, b2, ks2, ki2, i⟩, hx, ⟨rfl, rfl, rfl, rfl, rfl, hn⟩, rfl⟩ := LC.of2_some hs
    obtain rfl := dl17_ok hx
    refine ⟨_, (rounds17 _ b ks vs ki hn vs.length [] 0 (Int.le_refl 0) (by omega) (by simp; omega) (Int.le_refl 0)).trans ?_⟩
    cases vs with
    | nil => rfl
    | cons v vs => rfl
  | tail _ hm => cases hm
def wkN : Lw U := .a [.no, .l .str, .l .t83, .l .i64]
theorem e17 (b : Bool) (ks : List
  ByteArray) (vs : List
  R33) (ki : List
  Int) : (evFn X E0 an17 lp17 Try.f17 []
  [TV.agg [TV.v (Value.bool b), TV.lst C.str ks, TV.lst C.t33 vs, TV.lst C.i64 ki]]
  fun (o : List (TO X.U)) (v : TV X.U) => some (o, wkN.f v)) =
  if P17 b false b ks ks ki ki vs.length 0 then
  bif vs.isEmpty then some ([], TV.agg [TV.v (Value.bool b), TV.lst C.str ks, TV.lst C.t83 [], TV.lst C.i64 ki])
  else some ([], TV.agg [TV.v (Value.bool b), TV.lst C.str ks, TV.lst C.t83 (List.map cvR vs), TV.lst C.i64 ki])
else none := by kernel_rfl
def dRf (objs : List (TO U)) (args : List (TV U)) : Option (Bool × List ByteArray × List R33 × List Int) := match objs, args with
  | [], [a0] =>
    match a0 with
    | .agg [q0, q1, q2, q3] =>
      match q0 with
      | .v (.bool b) =>
        match q1 with
        | .lst .str ks =>
          match q2 with
          | .lst .t33 vs =>
            match q3 with
            | .lst .i64 ki =>
              some (b, ks, vs, ki)
            | _ => none
          | _ => none
        | _ => none
      | _ => none
    | _ => none
  | _, _ => none
theorem dRf_ok {objs : List (TO U)} {args : List (TV U)} {b : Bool} {ks : List ByteArray} {vs : List R33} {ki : List Int} (h : dRf objs args = some (b, ks, vs, ki)) : objs = [] ∧ args = [.agg [.v (.bool b), .lst .str ks, .lst .t33 vs, .lst .i64 ki]] := by
  unfold dRf at h
  repeat' split at h
  all_goals first | (cases h; done) | (cases h; exact ⟨rfl, rfl⟩)
def refP (b : Bool) (ks : List ByteArray) (vs : List R33) (ki : List Int) : N4 := ⟨b, ks, vs.map cvR, ki⟩
def PreRf (n : Nat) : Prop := n ≤ 1000000000
instance (n : Nat) : Decidable (PreRf n) := by unfold PreRf; infer_instance
def sRef0 : Spc U := .of dRf (fun (b, ks, vs, ki) => PreRf vs.length) (fun _ => []) fun (b, ks, vs, ki) => (refP b ks vs ki).tv
theorem sRef0_ok : SpecOk Try.prog 17 sRef0 := by
  refine fn_okw wkN X_ok mixed E0_ok an17 lp17 Try.func17 (by kernel_rfl) (by kernel_rfl) lp17_ok fun objs args x hx hp => ?_
  obtain ⟨b, ks, vs, ki⟩ := x
  obtain ⟨rfl, rfl⟩ := dRf_ok hx
  refine (e17 b ks vs ki).trans ?_
  rw [if_pos (show P17 b false b ks ks ki ki vs.length 0 from ⟨rfl, rfl, rfl, rfl, rfl, hp⟩)]
  cases vs with
  | nil => rfl
  | cons v vs => rfl
/-- Whatever is told of a node's rows. -/
def sRef : Spc U := sRef0.wkA [.a [.no, .l .str, .l .t33, .l .i64]]
theorem sRef_ok : SpecOk Try.prog 17 sRef := sRef0_ok.wkA _
end Go.Proofs.Ytmcflglkfgnbbaa.Nd

/- Nodes as bytes: numbers, texts. -/
namespace Go.Proofs.Ytmcflglkfgnbbaa.Nd
open Go Go.RowKit Go.Proofs.Ytmcflglkfgnbbaa.Eng
set_option linter.unusedVariables false
set_option linter.unusedSimpArgs false
set_option maxRecDepth 20000
/-- The bytes of a text. -/
def tl8 (s : ByteArray) : List UInt8 := s.data.toList
theorem tl8_append (a b : ByteArray) : tl8 (a ++ b) = tl8 a ++ tl8 b := by
  unfold tl8
  rw [ByteArray.data_append, Array.toList_append]
theorem tl8_inj {a b : ByteArray} (h : tl8 a = tl8 b) : a = b := by
  cases a; cases b
  congr
  exact Array.toList_inj.1 h
theorem tl8_len (a : ByteArray) : (tl8 a).length = a.size := Array.length_toList
def bL (n : Nat) : List UInt8 := if n < 128 then [UInt8.ofNat n] else UInt8.ofNat (128 + n % 128) :: bL (n / 128)
termination_by n
theorem ofNat_inj {a b : Nat} (ha : a < 256) (hb : b < 256) (h : UInt8.ofNat a = UInt8.ofNat b) : a = b := by
  have := congrArg UInt8.toNat h
  rw [UInt8.toNat_ofNat', UInt8.toNat_ofNat'] at this
  omega
theorem bL_inj : ∀ (a b : Nat) {s t : List UInt8}, bL a ++ s = bL b ++ t → a = b ∧ s = t := by
  intro a
  induction a using Nat.strongRecOn with
  | ind a ih =>
    intro b s t h
    conv at h => lhs; unfold bL
    conv at h => rhs; unfold bL
    by_cases ha : a < 128 <;> by_cases hb : b < 128
    · rw [if_pos ha, if_pos hb] at h
      obtain ⟨h1, h2⟩ := List.cons.inj h
      exact ⟨ofNat_inj (by omega) (by omega) h1, h2⟩
    · rw [if_pos ha, if_neg hb] at h
      obtain ⟨h1, h2⟩ := List.cons.inj h
      have := ofNat_inj (by omega) (by omega) h1
      omega
    · rw [if_neg ha, if_pos hb] at h
      obtain ⟨h1, h2⟩ := List.cons.inj h
      have := ofNat_inj (by omega) (by omega) h1
      omega
    · rw [if_neg ha, if_neg hb] at h
      obtain ⟨h1, h2⟩ := List.cons.inj h
      have h3 := ofNat_inj (by omega) (by omega) h1
      obtain ⟨h4, h5⟩ := ih (a / 128) (by omega) (b / 128) h2
      exact ⟨by omega, h5⟩
def nvF8 (g : List Int) : TV U := match g with
  | [] => nlv
  | _ :: _ => .full 0
def an46 : Ann := ⟨fun | 0 => 9 | _ => 0, fun | 0 => 13 | _ => 0, fun _ => [], false⟩
def hiB (n : Int) : Int := IntKind.u8.wrap ((BitVec.ofInt IntKind.u8.bits (IntKind.u8.wrap n) ||| BitVec.ofInt IntKind.u8.bits 128).toNat : Nat)
def sh7 (n : Int) : Int := n.fdiv (2 ^ min (Int.toNat 7) IntKind.u64.bits)
def loB (n : Int) : Int := IntKind.u8.wrap n
theorem sh7_nat (n : Nat) : sh7 (n : Int) = ((n / 128 : Nat) : Int) := by
  unfold sh7
  have : (2 ^ min (Int.toNat 7) IntKind.u64.bits : Int) = 128 := by decide
  rw [this]
  have := Int.fdiv_eq_ediv_of_nonneg (n : Int) (show (0 : Int) ≤ 128 by decide)
  rw [this]
  rfl
theorem wrap_u8 (n : Nat) : IntKind.u8.wrap (n : Int) = ((n % 256 : Nat) : Int) := by
  show (n : Int) % (2 ^ 8) = _
  omega
theorem loB_nat {n : Nat} (h : n < 256) : loB (n : Int) = n := by
  unfold loB
  rw [wrap_u8]
  omega
theorem hiB_nat (n : Nat) : hiB (n : Int) = ((128 + n % 128 : Nat) : Int) := by
  unfold hiB
  rw [wrap_u8 n]
  have key : ∀ k : Fin 256, (BitVec.ofInt IntKind.u8.bits ((k.val : Nat) : Int) ||| BitVec.ofInt IntKind.u8.bits 128).toNat = 128 + k.val % 128 := by decide +kernel
  have := key ⟨n % 256, Nat.mod_lt _ (by decide)⟩
  dsimp only at this
  rw [this, wrap_u8]
  omega
/-- All but the last byte of a number; the last one. -/
def hd (n : Nat) : List Int := if n < 128 then [] else ((128 + n % 128 : Nat) : Int) :: hd (n / 128)
termination_by n
def tl (n : Nat) : Nat := if n < 128 then n else tl (n / 128)
termination_by n
theorem tl_lt (n : Nat) : tl n < 128 := by
  induction n using Nat.strongRecOn with
  | ind n ih =>
    unfold tl
    split
    · assumption
    · exact ih _ (by omega)
theorem hd_len : ∀ (k n : Nat), n < 128 ^ (k + 1) → (hd n).length ≤ k := by
  intro k
  induction k with
  | zero => intro n h; unfold hd; rw [if_pos (by simpa using h)]; exact Nat.le_refl _
  | succ k ih =>
    intro n h
    unfold hd
    split
    · exact Nat.zero_le _
    · rw [List.length_cons]
      have := ih (n / 128) (by rw [Nat.div_lt_iff_lt_mul (by decide), ← Nat.pow_succ]; exact h)
      omega
/-- A number of 64 bits. -/
def U64 (n : Int) : Prop := 0 ≤ n ∧ n < 18446744073709551616
instance (n : Int) : Decidable (U64 n) := by unfold U64; infer_instance
theorem U64.hd {n : Int} (h : U64 n) : (hd n.toNat).length ≤ 9 := hd_len 9 _ (by have := h.1; have := h.2; have e : (128 : Nat) ^ (9 + 1) = 1180591620717411303424 := by decide
                                                                                 rw [e]; omega)
theorem u64_wrap (x : Int) : U64 (IntKind.u64.wrap x) := by
  show 0 ≤ x % (2 ^ 64) ∧ x % (2 ^ 64) < _
  omega
def rw8 : List Int → List (TO U)
  | [] => []
  | x :: l => [.row .u8 (x :: l) false]
def S46 (g : List Int) (n : Int) : TS U := mkS 20 [(0, .v (.int .u64 n)), (3, nvF8 g)] (rw8 g) 0
theorem r46 (lp : Lp U) (N : Nat) (g : List Int) (n : Int) : fnLoop X E0 an46 lp Try.f46 0 N.succ (S46 g n) = cond (decide (127 < n)) (if (g.length + 1) * 1 ≤ 140737488355328 then fnLoop X E0 an46 lp Try.f46 0 N (S46 (g ++ [hiB n]) (sh7 n)) else none) (some (.exit 0, S46 g n)) := by cases g <;> kernel_rfl
theorem rounds46 (lp : Lp U) (n : Nat) : ∀ (g : List Int), g.length + (hd n).length ≤ 1000 → fnLoop X E0 an46 lp Try.f46 0 ((hd n).length + 1) (S46 g n) = some (.exit 0, S46 (g ++ hd n) (tl n)) := by
  induction n using Nat.strongRecOn with
  | ind n ih =>
    intro g hg
    rw [r46]
    by_cases h : n < 128
    · have e1 : hd n = [] := by unfold hd; rw [if_pos h]
      have e2 : tl n = n := by unfold tl; rw [if_pos h]
      rw [e1, e2, decide_eq_false (by omega), List.append_nil]
      rfl
    · have e1 : hd n = ((128 + n % 128 : Nat) : Int) :: hd (n / 128) := by conv => lhs; unfold hd; rw [if_neg h]
      have e2 : tl n = tl (n / 128) := by conv => lhs; unfold tl; rw [if_neg h]
      rw [e1] at hg ⊢
      rw [List.length_cons] at hg
      rw [decide_eq_true (by omega), cond_true, if_pos (by omega), hiB_nat, sh7_nat, e2]
      have := ih (n / 128) (by omega) (g ++ [((128 + n % 128 : Nat) : Int)]) (by rw [List.length_append]; show g.length + 1 + _ ≤ _; omega)
      rw [List.append_assoc] at this
      exact this
/-- A number's bytes. -/
def numB (n : Int) : ByteArray := strOfNums (hd n.toNat ++ [(tl n.toNat : Int)])
def dl46 (s : TS U) : Option (Int) := match told s 20 [0, 3] 0, s.objs with
  | some [a0, a1], [] =>
    match a0 with
    | .v (.int .u64 n) =>
      match a1 with
      | .v (.slice none 0 0) =>
        some n
      | _ => none
    | _ => none
  | _, _ => none
theorem dl46_ok {s : TS U} {n : Int} (h : dl46 s = some n) : s = mkS (U := U) 20 ([0, 3].zip ([.v (.int .u64 n), .v (.slice none 0 0)] : List (TV U))) ([] : List (TO U)) 0 := by
  unfold dl46 at h
  split at h <;> try (cases h; done)
  rename_i ht ho
  have hs := told_ok ht
  rw [ho] at hs
  repeat' split at h
  all_goals first | (cases h; done) | (cases h; exact hs)
def lc46 : LC U := .ofG dl46 (fun n => U64 n) (fun n K => lsp (hd n.toNat) fun g => K (.exit 0) (S46 g (tl n.toNat))) (fun _ => .exit 0) (fun n => S46 (hd n.toNat) (tl n.toNat)) fun n K => lsp_eq _ _
def lp46 : Lp U := lpL [(0, lc46)]
theorem lp46_ok : ∀ c, Try.f46.body = some c → LpOk X E0 an46 lp46 (loops c 0) := lpL_ok (by kernel_rfl) fun b L hm st p hs => by
  cases hm with
  | tail _ h => cases h
  | head =>
    obtain ⟨n, hx, h1, rfl⟩ := LC.ofG_some (fun x K => lsp_eq _ _) hs
    obtain rfl := dl46_ok hx
    have h2 := h1.hd
    have h0 := h1.1
    have := rounds46 (lpL [(0, lc46)]) n.toNat [] (by show 0 + _ ≤ _; omega)
    rw [show ((n.toNat : Nat) : Int) = n by omega] at this
    exact ⟨_, this⟩
theorem e46 (n : Int) : (evFn X E0 an46 lp46 Try.f46 [] [TV.v (Value.int IntKind.u64 n)]
  fun (o : List (TO X.U)) (v : TV X.U) => some (o, v)) =
  if U64 n then
  bif (hd n.toNat).isEmpty then
    if 1 * 1 ≤ 140737488355328 then some ([], TV.v (Value.string (strOfNums [IntKind.u8.wrap (↑(tl n.toNat) : Int)])))
    else none
  else
    (unc (hd n.toNat)).bind fun (x : Int × List Int) =>
      if ((x.fst :: x.snd).length + 1) * 1 ≤ 140737488355328 then
        some ([], TV.v (Value.string (strOfNums (x.fst :: x.snd ++ [IntKind.u8.wrap (↑(tl n.toNat) : Int)]))))
      else none
else none := by kernel_rfl
def du64 (objs : List (TO U)) (args : List (TV U)) : Option (Int) := match objs, args with
  | [], [a0] =>
    match a0 with
    | .v (.int .u64 n) =>
      some n
    | _ => none
  | _, _ => none
theorem du64_ok {objs : List (TO U)} {args : List (TV U)} {n : Int} (h : du64 objs args = some n) : objs = [] ∧ args = [.v (.int .u64 n)] := by
  unfold du64 at h
  repeat' split at h
  all_goals first | (cases h; done) | (cases h; exact ⟨rfl, rfl⟩)
def sNum : Spc U := .of du64 (fun n => U64 n) (fun _ => []) fun n => .v (.string (numB n))
theorem sNum_ok : SpecOk Try.prog 46 sNum := by
  refine fn_ok X_ok mixed E0_ok an46 lp46 Try.func46 (by kernel_rfl) (by kernel_rfl) lp46_ok fun objs args n hx hp => ?_
  obtain ⟨rfl, rfl⟩ := du64_ok hx
  dsimp only
  refine (e46 n).trans ?_
  rw [if_pos hp]
  have h2 := hp.hd
  have h3 := tl_lt n.toNat
  have e : IntKind.u8.wrap ((tl n.toNat : Nat) : Int) = (tl n.toNat : Nat) := loB_nat (by omega)
  unfold numB
  generalize hd n.toNat = g at h2
  cases g with
  | nil => rw [e]; rfl
  | cons x l => rw [e]; exact if_pos (show ((x :: l).length + 1) * 1 ≤ 140737488355328 by omega)
theorem hd_tl : ∀ n : Nat, (hd n ++ [(tl n : Int)]).map (fun x => UInt8.ofNat x.toNat) = bL n := by
  intro n
  induction n using Nat.strongRecOn with
  | ind n ih =>
    unfold hd tl bL
    by_cases h : n < 128
    · rw [if_pos h, if_pos h, if_pos h]; rfl
    · rw [if_neg h, if_neg h, if_neg h, List.cons_append, List.map_cons, ih (n / 128) (by omega)]
      rfl
theorem numB_bL (n : Int) : tl8 (numB n) = bL n.toNat := by
  rw [← hd_tl]
  rfl
theorem numB_size {n : Int} (h : U64 n) : (numB n).size ≤ 10 := by
  have h2 := h.hd
  have : (numB n).size = (hd n.toNat ++ [(tl n.toNat : Int)]).length := by
    rw [← tl8_len]
    show (((hd n.toNat ++ [(tl n.toNat : Int)]).map _).toArray).toList.length = _
    rw [List.length_map]
  rw [this, List.length_append]
  exact Nat.succ_le_succ h2
theorem app_size (a b : ByteArray) : (a ++ b).size = a.size + b.size := by
  rw [← tl8_len, tl8_append, List.length_append, tl8_len, tl8_len]
end Go.Proofs.Ytmcflglkfgnbbaa.Nd

/- Nodes as bytes: texts; the reference's numbers. -/
namespace Go.Proofs.Ytmcflglkfgnbbaa.Nd
open Go Go.RowKit Go.Proofs.Ytmcflglkfgnbbaa.Eng
set_option linter.unusedVariables false
set_option linter.unusedSimpArgs false
set_option maxRecDepth 20000
def Ew : FuncId → Option (Spc U)
  | 46 => some sNum
  | _ => none
theorem Ew_ok : ∀ f S, Ew f = some S → SpecOk Try.prog f S := fun f S h => by
  unfold Ew at h
  split at h
  · cases h; exact sNum_ok
  · cases h
def P58 (k : Nat) (n : Int) : Prop := 0 < k ∧ 0 ≤ n ∧ n < 128 ^ k ∧ n < 18446744073709551616
instance (k : Nat) (n : Int) : Decidable (P58 k n) := by unfold P58; infer_instance
def s58 (k : Nat) : Spc U := .of du64 (fun n => P58 k n) (fun _ => []) fun n => .v (.string (numB n))
def E58 (k : Nat) : FuncId → Option (Spc U)
  | 58 => some (s58 k)
  | _ => none
theorem E58_ok {k : Nat} (h : SpecOk Try.prog 58 (s58 k)) : ∀ f S, E58 k f = some S → SpecOk Try.prog f S := fun f S h' => by
  unfold E58 at h'
  split at h'
  · cases h'; exact h
  · cases h'
theorem e78 (s : ByteArray) : (evFn X Ew an0 lp0 Try.f78 [] [TV.v (Value.string s)]
  fun (o : List (TO X.U)) (v : TV X.U) => some (o, v)) =
  if U64 (IntKind.u64.wrap (↑s.size : Int)) then
  if (numB (IntKind.u64.wrap (↑s.size : Int))).size + s.size ≤ 9223372036854775807 then
    some ([], TV.v (Value.string (numB (IntKind.u64.wrap (↑s.size : Int)) ++ s)))
  else none
else none := by kernel_rfl
theorem e58 (k : Nat) (n : Int) : (evFn X (E58 k) an0 lp0 Try.f58 [] [TV.v (Value.int IntKind.u64 n)]
  fun (o : List (TO X.U)) (v : TV X.U) => some (o, v)) =
  bif decide (n < 128) then some ([], TV.v (Value.string (strOfNums [IntKind.u8.wrap n])))
else
  if P58 k (IntKind.u64.wrap (n.tdiv 128)) then
    if
        (strOfNums [IntKind.u8.wrap (IntKind.u64.wrap (128 + n.tmod 128))]).size +
            (numB (IntKind.u64.wrap (n.tdiv 128))).size ≤
          9223372036854775807 then
      some
        ([],
          TV.v
            (Value.string
              (strOfNums [IntKind.u8.wrap (IntKind.u64.wrap (128 + n.tmod 128))] ++
                numB (IntKind.u64.wrap (n.tdiv 128)))))
    else none
  else none := by kernel_rfl
def textB (s : ByteArray) : ByteArray := numB (IntKind.u64.wrap (s.size : Int)) ++ s
theorem wrap_u8' {n : Int} (h : 0 ≤ n) (h2 : n < 256) : IntKind.u8.wrap n = n := by
  show n % (2 ^ 8) = _
  omega
theorem u64_id {n : Int} (h : 0 ≤ n) (h2 : n < 18446744073709551616) : IntKind.u64.wrap n = n := by
  show n % (2 ^ 64) = _
  omega
theorem tl8_nums (l : List Int) : tl8 (strOfNums l) = l.map fun x => UInt8.ofNat x.toNat := rfl
theorem numB_lt {n : Int} (h : n < 128) : numB n = strOfNums [n] := tl8_inj (by
  rw [numB_bL, tl8_nums]
  unfold bL
  rw [if_pos (by omega)]
  rfl)
theorem numB_ge {n : Int} (h : ¬ n < 128) : numB n = strOfNums [128 + n.tmod 128] ++ numB (n.tdiv 128) := tl8_inj (by
  obtain ⟨m, rfl⟩ : ∃ m : Nat, n = m := ⟨n.toNat, by omega⟩
  have e1 : (m : Int).tmod 128 = ((m % 128 : Nat) : Int) := rfl
  have e2 : (m : Int).tdiv 128 = ((m / 128 : Nat) : Int) := rfl
  rw [e1, e2, tl8_append, numB_bL, numB_bL, tl8_nums]
  conv => lhs; unfold bL
  rw [if_neg (by omega)]
  have e3 : ((128 : Int) + ((m % 128 : Nat) : Int)).toNat = 128 + m % 128 := by omega
  rw [List.map_cons, e3]
  rfl)
theorem o58 {k : Nat} {n : Int} (h : 0 ≤ n) (h2 : n < 18446744073709551616) (h3 : n < 128 ∨ P58 k (n / 128)) : evFn X (E58 k) an0 lp0 Try.f58 [] [.v (.int .u64 n)] (fun o v => some (o, v)) = some ([], .v (.string (numB n))) := by
  rw [e58]
  by_cases hn : n < 128
  · rw [decide_eq_true hn, numB_lt hn, wrap_u8' h (by omega)]
    rfl
  · obtain ⟨m, rfl⟩ : ∃ m : Nat, n = m := ⟨n.toNat, by omega⟩
    have e1 : (m : Int).tmod 128 = ((m % 128 : Nat) : Int) := rfl
    have e2 : (m : Int).tdiv 128 = ((m / 128 : Nat) : Int) := rfl
    have e3 : (m : Int) / 128 = ((m / 128 : Nat) : Int) := rfl
    have hp := h3.resolve_left hn
    rw [e3] at hp
    have w1 : IntKind.u64.wrap ((m / 128 : Nat) : Int) = ((m / 128 : Nat) : Int) := u64_id (by omega) (by omega)
    have w2 : IntKind.u64.wrap (128 + ((m % 128 : Nat) : Int)) = 128 + ((m % 128 : Nat) : Int) := u64_id (by omega) (by omega)
    have w3 : IntKind.u8.wrap (128 + ((m % 128 : Nat) : Int)) = 128 + ((m % 128 : Nat) : Int) := wrap_u8' (by omega) (by omega)
    have hs := numB_size (n := ((m / 128 : Nat) : Int)) ⟨by omega, by omega⟩
    have h1 : (strOfNums [128 + ((m % 128 : Nat) : Int)]).size = 1 := rfl
    have e4 := numB_ge hn
    rw [e1, e2] at e4
    rw [decide_eq_false hn, e1, e2, w1, w2, w3, if_pos hp, if_pos (by omega), ← e4]
    rfl
theorem s58_ok : ∀ k, SpecOk Try.prog 58 (s58 k)
  | 0 => fn_ok X_ok mixed E0_ok an0 lp0 Try.func58 (by kernel_rfl) (by kernel_rfl) (lp0_ok (by kernel_rfl)) fun objs args n hx hp => absurd hp.1 (by omega)
  | k + 1 => by
    refine fn_ok X_ok mixed (E58_ok (s58_ok k)) an0 lp0 Try.func58 (by kernel_rfl) (by kernel_rfl) (lp0_ok (by kernel_rfl)) fun objs args n hx hp => ?_
    obtain ⟨rfl, rfl⟩ := du64_ok hx
    obtain ⟨_, h1, h2, h3⟩ := hp
    refine o58 h1 h3 ?_
    rcases Nat.eq_zero_or_pos k with h0 | h0
    · subst h0
      exact .inl (by simpa using h2)
    · rw [Int.pow_succ] at h2
      exact .inr ⟨h0, by omega, by omega, by omega⟩
def sNumR : Spc U := .of du64 (fun n => U64 n) (fun _ => []) fun n => .v (.string (numB n))
theorem sNumR_ok : SpecOk Try.prog 58 sNumR := by
  refine fn_ok X_ok mixed (E58_ok (s58_ok 9)) an0 lp0 Try.func58 (by kernel_rfl) (by kernel_rfl) (lp0_ok (by kernel_rfl)) fun objs args n hx hp => ?_
  obtain ⟨rfl, rfl⟩ := du64_ok hx
  obtain ⟨h1, h2⟩ := hp
  have e : (128 : Int) ^ 9 = 9223372036854775808 := by decide
  exact o58 h1 h2 (.inr ⟨by omega, by omega, by rw [e]; omega, by omega⟩)
def dStr (objs : List (TO U)) (args : List (TV U)) : Option (ByteArray) := match objs, args with
  | [], [a0] =>
    match a0 with
    | .v (.string s) =>
      some s
    | _ => none
  | _, _ => none
theorem dStr_ok {objs : List (TO U)} {args : List (TV U)} {s : ByteArray} (h : dStr objs args = some s) : objs = [] ∧ args = [.v (.string s)] := by
  unfold dStr at h
  repeat' split at h
  all_goals first | (cases h; done) | (cases h; exact ⟨rfl, rfl⟩)
def Sz (n : Nat) : Prop := n ≤ 100000000
instance (n : Nat) : Decidable (Sz n) := by unfold Sz; infer_instance
def sText : Spc U := .of dStr (fun s => Sz s.size) (fun _ => []) fun s => .v (.string (textB s))
theorem sText_ok : SpecOk Try.prog 78 sText := by
  refine fn_ok X_ok mixed Ew_ok an0 lp0 Try.func78 (by kernel_rfl) (by kernel_rfl) (lp0_ok (by kernel_rfl)) fun objs args s hx hp => ?_
  obtain ⟨rfl, rfl⟩ := dStr_ok hx
  dsimp only at hp ⊢
  refine (e78 s).trans ?_
  have := numB_size (u64_wrap (s.size : Int))
  unfold Sz at hp
  rw [if_pos (u64_wrap _), if_pos (by omega)]
  rfl
def Er : FuncId → Option (Spc U)
  | 58 => some sNumR
  | _ => none
theorem Er_ok : ∀ f S, Er f = some S → SpecOk Try.prog f S := fun f S h => by
  unfold Er at h
  split at h
  · cases h; exact sNumR_ok
  · cases h
theorem e80 (s : ByteArray) : (evFn X Er an0 lp0 Try.f80 [] [TV.v (Value.string s)]
  fun (o : List (TO X.U)) (v : TV X.U) => some (o, v)) =
  if U64 (IntKind.u64.wrap (↑s.size : Int)) then
  if (numB (IntKind.u64.wrap (↑s.size : Int))).size + s.size ≤ 9223372036854775807 then
    some ([], TV.v (Value.string (numB (IntKind.u64.wrap (↑s.size : Int)) ++ s)))
  else none
else none := by kernel_rfl
def sTextR : Spc U := .of dStr (fun s => Sz s.size) (fun _ => []) fun s => .v (.string (textB s))
theorem sTextR_ok : SpecOk Try.prog 80 sTextR := by
  refine fn_ok X_ok mixed Er_ok an0 lp0 Try.func80 (by kernel_rfl) (by kernel_rfl) (lp0_ok (by kernel_rfl)) fun objs args s hx hp => ?_
  obtain ⟨rfl, rfl⟩ := dStr_ok hx
  dsimp only at hp ⊢
  refine (e80 s).trans ?_
  have := numB_size (u64_wrap (s.size : Int))
  unfold Sz at hp
  rw [if_pos (u64_wrap _), if_pos (by omega)]
  rfl
end Go.Proofs.Ytmcflglkfgnbbaa.Nd

/- Nodes as bytes: what stands behind a key. -/
namespace Go.Proofs.Ytmcflglkfgnbbaa.Nd
open Go Go.RowKit Go.Proofs.Ytmcflglkfgnbbaa.Eng
set_option linter.unusedVariables false
set_option linter.unusedSimpArgs false
set_option maxRecDepth 20000
def Et : FuncId → Option (Spc U)
  | 46 => some sNum
  | 78 => some sText
  | _ => none
theorem Et_ok : ∀ f S, Et f = some S → SpecOk Try.prog f S := fun f S h => by
  unfold Et at h
  split at h
  · cases h; exact sNum_ok
  · cases h; exact sText_ok
  · cases h
def Eu : FuncId → Option (Spc U)
  | 58 => some sNumR
  | 80 => some sTextR
  | _ => none
theorem Eu_ok : ∀ f S, Eu f = some S → SpecOk Try.prog f S := fun f S h => by
  unfold Eu at h
  split at h
  · cases h; exact sNumR_ok
  · cases h; exact sTextR_ok
  · cases h
def R33.vV (v : R33) : TV U := .agg [.v (.string v.Data), .v (.int .i64 v.Page), .v (.int .i64 v.Len)]
theorem e47 (k : ByteArray) (v : R33) : (evFn X Et an0 lp0 Try.f47 [] [TV.v (Value.string k), v.vV]
  fun (o : List (TO X.U)) (v : TV X.U) => some (o, v)) =
  bif decide (0 ≤ v.Page) then
  if Sz k.size then
    if (textB k).size + (⟨#[1]⟩ : ByteArray).size ≤ 9223372036854775807 then
      if U64 (IntKind.u64.wrap v.Page) then
        if (textB k ++ (⟨#[1]⟩ : ByteArray)).size + (numB (IntKind.u64.wrap v.Page)).size ≤ 9223372036854775807 then
          if U64 (IntKind.u64.wrap v.Len) then
            if
                (textB k ++ (⟨#[1]⟩ : ByteArray) ++ numB (IntKind.u64.wrap v.Page)).size +
                    (numB (IntKind.u64.wrap v.Len)).size ≤
                  9223372036854775807 then
              some
                ([],
                  TV.v
                    (Value.string
                      (textB k ++ (⟨#[1]⟩ : ByteArray) ++ numB (IntKind.u64.wrap v.Page) ++ numB (IntKind.u64.wrap v.Len))))
            else none
          else none
        else none
      else none
    else none
  else none
else
  if Sz k.size then
    if (textB k).size + (⟨#[0]⟩ : ByteArray).size ≤ 9223372036854775807 then
      if Sz v.Data.size then
        if (textB k ++ (⟨#[0]⟩ : ByteArray)).size + (textB v.Data).size ≤ 9223372036854775807 then
          some ([], TV.v (Value.string (textB k ++ (⟨#[0]⟩ : ByteArray) ++ textB v.Data)))
        else none
      else none
    else none
  else none := by kernel_rfl
theorem e48 (k : ByteArray) (n : Int) : (evFn X Et an0 lp0 Try.f48 []
  [TV.v (Value.string k), TV.v (Value.int IntKind.i64 n)] fun (o : List (TO X.U)) (v : TV X.U) => some (o, v)) =
  if Sz k.size then
  if U64 (IntKind.u64.wrap n) then
    if (textB k).size + (numB (IntKind.u64.wrap n)).size ≤ 9223372036854775807 then
      some ([], TV.v (Value.string (textB k ++ numB (IntKind.u64.wrap n))))
    else none
  else none
else none := by kernel_rfl
theorem e59 (n : N4) (i : Int) : (evFn X Eu an0 lp0 Try.f59 [] [n.tv, TV.v (Value.int IntKind.i64 i)]
  fun (o : List (TO X.U)) (v : TV X.U) => some (o, v)) =
  (getI n.K i).bind fun (z : X.U.T C.str) =>
  if Sz (ByteArray.size z) then
    bif !n.L then
      (getI n.I (IntKind.i64.wrap (i + 1))).bind fun (z_1 : X.U.T C.i64) =>
        if U64 (IntKind.u64.wrap z_1) then
          if (textB z).size + (numB (IntKind.u64.wrap z_1)).size ≤ 9223372036854775807 then
            some ([], TV.v (Value.string (textB z ++ numB (IntKind.u64.wrap z_1))))
          else none
        else none
    else
      (getI n.V i).bind fun (z_1 : X.U.T C.t83) =>
        bif decide (0 ≤ z_1.Page) then
          if (textB z).size + (⟨#[1]⟩ : ByteArray).size ≤ 9223372036854775807 then
            (getI n.V i).bind fun (z_2 : X.U.T C.t83) =>
              if U64 (IntKind.u64.wrap z_2.Page) then
                if
                    (textB z ++ (⟨#[1]⟩ : ByteArray)).size + (numB (IntKind.u64.wrap z_2.Page)).size ≤
                      9223372036854775807 then
                  (getI n.V i).bind fun (z_3 : X.U.T C.t83) =>
                    if U64 (IntKind.u64.wrap z_3.Len) then
                      if
                          (textB z ++ (⟨#[1]⟩ : ByteArray) ++ numB (IntKind.u64.wrap z_2.Page)).size +
                              (numB (IntKind.u64.wrap z_3.Len)).size ≤
                            9223372036854775807 then
                        some
                          ([],
                            TV.v
                              (Value.string
                                (textB z ++ (⟨#[1]⟩ : ByteArray) ++ numB (IntKind.u64.wrap z_2.Page) ++
                                  numB (IntKind.u64.wrap z_3.Len))))
                      else none
                    else none
                else none
              else none
          else none
        else
          if (textB z).size + (⟨#[0]⟩ : ByteArray).size ≤ 9223372036854775807 then
            (getI n.V i).bind fun (z_2 : X.U.T C.t83) =>
              if Sz z_2.Data.size then
                if (textB z ++ (⟨#[0]⟩ : ByteArray)).size + (textB z_2.Data).size ≤ 9223372036854775807 then
                  some ([], TV.v (Value.string (textB z ++ (⟨#[0]⟩ : ByteArray) ++ textB z_2.Data)))
                else none
              else none
          else none
  else none := by kernel_rfl
theorem app_len (a b : ByteArray) : (a ++ b).size = a.size + b.size := app_size a b
theorem textB_size {s : ByteArray} (h : Sz s.size) : (textB s).size ≤ 100000010 := by
  have := numB_size (u64_wrap (s.size : Int))
  unfold Sz at h
  unfold textB
  rw [app_size]
  omega
/-- The bytes of what a leaf has at a place; of a page behind a key. -/
def entB (k : ByteArray) (v : R33) : ByteArray := cond (decide (0 ≤ v.Page)) (textB k ++ ⟨#[1]⟩ ++ numB (IntKind.u64.wrap v.Page) ++ numB (IntKind.u64.wrap v.Len)) (textB k ++ ⟨#[0]⟩ ++ textB v.Data)
def lnkB (k : ByteArray) (n : Int) : ByteArray := textB k ++ numB (IntKind.u64.wrap n)
theorem sz1 (b : UInt8) : (ByteArray.mk #[b]).size = 1 := rfl
theorem entB_size {k : ByteArray} {v : R33} (h : Sz k.size) (h2 : Sz v.Data.size) : (entB k v).size ≤ 300000000 := by
  have h3 := textB_size h
  have h4 := textB_size h2
  have h5 := numB_size (u64_wrap v.Page)
  have h6 := numB_size (u64_wrap v.Len)
  unfold entB
  cases decide (0 ≤ v.Page) <;> simp only [cond_true, cond_false, app_size, sz1] <;> omega
theorem lnkB_size {k : ByteArray} {n : Int} (h : Sz k.size) : (lnkB k n).size ≤ 300000000 := by
  have h3 := textB_size h
  have h5 := numB_size (u64_wrap n)
  unfold lnkB
  rw [app_size]
  omega
def PEnt (k d : Nat) : Prop := Sz k ∧ Sz d
instance (k d : Nat) : Decidable (PEnt k d) := by unfold PEnt; infer_instance
def dEnt (objs : List (TO U)) (args : List (TV U)) : Option (ByteArray × R33) := match objs, args with
  | [], [a0, a1] =>
    match a0 with
    | .v (.string k) =>
      match a1 with
      | .agg [q0, q1, q2] =>
        match q0 with
        | .v (.string v_Data) =>
          match q1 with
          | .v (.int .i64 v_Page) =>
            match q2 with
            | .v (.int .i64 v_Len) =>
              some (k, (⟨v_Data, v_Page, v_Len⟩ : R33))
            | _ => none
          | _ => none
        | _ => none
      | _ => none
    | _ => none
  | _, _ => none
theorem dEnt_ok {objs : List (TO U)} {args : List (TV U)} {k : ByteArray} {v : R33} (h : dEnt objs args = some (k, v)) : objs = [] ∧ args = [.v (.string k), v.vV] := by
  unfold dEnt at h
  repeat' split at h
  all_goals first | (cases h; done) | (cases h; exact ⟨rfl, rfl⟩)
def sEnt : Spc U := .of dEnt (fun (k, v) => PEnt k.size v.Data.size) (fun _ => []) fun (k, v) => .v (.string (entB k v))
theorem sEnt_ok : SpecOk Try.prog 47 sEnt := by
  refine fn_ok X_ok mixed Et_ok an0 lp0 Try.func47 (by kernel_rfl) (by kernel_rfl) (lp0_ok (by kernel_rfl)) fun objs args x hx hp => ?_
  obtain ⟨k, v⟩ := x
  obtain ⟨rfl, rfl⟩ := dEnt_ok hx
  obtain ⟨h1, h2⟩ := hp
  refine (e47 k v).trans ?_
  have h3 := textB_size h1
  have h4 := textB_size h2
  have h5 := numB_size (u64_wrap v.Page)
  have h6 := numB_size (u64_wrap v.Len)
  rw [if_pos h1, if_pos h2, if_pos (u64_wrap _), if_pos (u64_wrap _)]
  unfold entB
  simp only [app_size, sz1]
  cases decide (0 ≤ v.Page)
  · simp only [cond_false]
    rw [if_pos h1, if_pos (show (textB k).size + 1 ≤ 9223372036854775807 by omega), if_pos (show (textB k).size + 1 + (textB v.Data).size ≤ 9223372036854775807 by omega)]
  · simp only [cond_true]
    rw [if_pos (by omega), if_pos (by omega), if_pos (by omega)]
def dLnk (objs : List (TO U)) (args : List (TV U)) : Option (ByteArray × Int) := match objs, args with
  | [], [a0, a1] =>
    match a0 with
    | .v (.string k) =>
      match a1 with
      | .v (.int .i64 n) =>
        some (k, n)
      | _ => none
    | _ => none
  | _, _ => none
theorem dLnk_ok {objs : List (TO U)} {args : List (TV U)} {k : ByteArray} {n : Int} (h : dLnk objs args = some (k, n)) : objs = [] ∧ args = [.v (.string k), .v (.int .i64 n)] := by
  unfold dLnk at h
  repeat' split at h
  all_goals first | (cases h; done) | (cases h; exact ⟨rfl, rfl⟩)
def sLnk : Spc U := .of dLnk (fun (k, n) => Sz k.size) (fun _ => []) fun (k, n) => .v (.string (lnkB k n))
theorem sLnk_ok : SpecOk Try.prog 48 sLnk := by
  refine fn_ok X_ok mixed Et_ok an0 lp0 Try.func48 (by kernel_rfl) (by kernel_rfl) (lp0_ok (by kernel_rfl)) fun objs args x hx hp => ?_
  obtain ⟨k, n⟩ := x
  obtain ⟨rfl, rfl⟩ := dLnk_ok hx
  refine (e48 k n).trans ?_
  have h3 := textB_size hp
  have h5 := numB_size (u64_wrap n)
  rw [if_pos hp, if_pos (u64_wrap _), if_pos (by omega)]
  rfl
/-! ### Nodes -/
def cvB (v : R83) : R33 := ⟨v.Data, v.Page, v.Len⟩
theorem cvB_cvR (v : R33) : cvB (cvR v) = v := rfl
/-- What a node of so much is. -/
def Pn (L : Bool) (ks : List ByteArray) (vs : List R33) (ki : List Int) : Prop := ks.length ≤ 1000000 ∧ (∀ k ∈ ks, Sz k.size) ∧ (∀ v ∈ vs, Sz v.Data.size) ∧ (L = true → vs.length = ks.length) ∧ (L = false → ki.length = ks.length + 1)
noncomputable instance (L : Bool) (ks : List ByteArray) (vs : List R33) (ki : List Int) : Decidable (Pn L ks vs ki) := Classical.propDecidable _
def pcs (L : Bool) (ks : List ByteArray) (vs : List R33) (ki : List Int) : List ByteArray := cond L (List.zipWith entB ks vs) (List.zipWith lnkB ks (ki.drop 1))
def hdB (L : Bool) (ks : List ByteArray) (ki : List Int) : ByteArray := cond L (numB (IntKind.u64.wrap (ks.length : Int))) (numB (IntKind.u64.wrap (ks.length : Int)) ++ numB (IntKind.u64.wrap (ki.headD 0)))
def putB (L : Bool) (ks : List ByteArray) (vs : List R33) (ki : List Int) : ByteArray := (pcs L ks vs ki).foldl (· ++ ·) (hdB L ks ki)
theorem pcs_len {L : Bool} {ks : List ByteArray} {vs : List R33} {ki : List Int} (h : Pn L ks vs ki) : (pcs L ks vs ki).length = ks.length := by
  obtain ⟨_, _, _, h1, h2⟩ := h
  unfold pcs
  cases L
  · simp only [cond_false, List.length_zipWith, List.length_drop, h2 rfl]; omega
  · simp only [cond_true, List.length_zipWith, h1 rfl]; omega
theorem hdB_size (L : Bool) (ks : List ByteArray) (ki : List Int) : (hdB L ks ki).size ≤ 20 := by
  have h1 := numB_size (u64_wrap (ks.length : Int))
  have h2 := numB_size (u64_wrap (ki.headD 0))
  unfold hdB
  cases L <;> simp only [cond_true, cond_false, app_size] <;> omega
/-- A piece of a leaf; of an inner node. -/
theorem pcs_leaf {ks : List ByteArray} {vs : List R33} {ki : List Int} (h : Pn true ks vs ki) {v : Int} {z : ByteArray} (hz : getI (pcs true ks vs ki) v = some z) :
    ∃ k w, getI ks v = some k ∧ getI vs v = some w ∧ z = entB k w ∧ PEnt k.size w.Data.size ∧ z.size ≤ 300000000 := by
  unfold getI at hz ⊢
  split at hz
  · rename_i h0
    rw [if_pos h0, if_pos h0]
    unfold pcs at hz
    rw [cond_true, List.getElem?_zipWith_eq_some] at hz
    obtain ⟨k, w, h1, h2, rfl⟩ := hz
    have h3 := h.2.1 k (List.mem_of_getElem? h1)
    have h4 := h.2.2.1 w (List.mem_of_getElem? h2)
    exact ⟨k, w, h1, h2, rfl, ⟨h3, h4⟩, entB_size h3 h4⟩
  · cases hz
theorem pcs_inner {ks : List ByteArray} {vs : List R33} {ki : List Int} (h : Pn false ks vs ki) {v : Int} {z : ByteArray} (hz : getI (pcs false ks vs ki) v = some z) :
    ∃ k n, getI ks v = some k ∧ getI ki (v + 1) = some n ∧ z = lnkB k n ∧ Sz k.size ∧ z.size ≤ 300000000 := by
  unfold getI at hz ⊢
  split at hz
  · rename_i h0
    rw [if_pos h0, if_pos (by omega)]
    unfold pcs at hz
    rw [cond_false, List.getElem?_zipWith_eq_some] at hz
    obtain ⟨k, w, h1, h2, rfl⟩ := hz
    have h3 := h.2.1 k (List.mem_of_getElem? h1)
    rw [List.getElem?_drop, show 1 + v.toNat = (v + 1).toNat by omega] at h2
    exact ⟨k, w, h1, h2, rfl, h3, lnkB_size h3⟩
  · cases hz
end Go.Proofs.Ytmcflglkfgnbbaa.Nd

/- Nodes as bytes: Put. -/
namespace Go.Proofs.Ytmcflglkfgnbbaa.Nd
open Go Go.RowKit Go.Proofs.Ytmcflglkfgnbbaa.Eng
set_option linter.unusedVariables false
set_option linter.unusedSimpArgs false
set_option maxRecDepth 20000
def Ep : FuncId → Option (Spc U)
  | 46 => some sNum
  | 47 => some sEnt
  | 48 => some sLnk
  | _ => none
theorem Ep_ok : ∀ f S, Ep f = some S → SpecOk Try.prog f S := fun f S h => by
  unfold Ep at h
  split at h
  · cases h; exact sNum_ok
  · cases h; exact sEnt_ok
  · cases h; exact sLnk_ok
  · cases h
def an19 : Ann := ⟨fun | 0 => 458762 | 2 => 61572651155466 | _ => 0, fun | 0 => 12 | 2 => 12 | _ => 0, fun _ => [], false⟩
def an25 : Ann := ⟨fun | 0 => 26 | _ => 0, fun | 0 => 12 | _ => 0, fun _ => [], false⟩
def g19_S0 (L : Bool) (ks : List
  ByteArray) (vs : List
  R33) (ki : List
  Int) (v0 : ByteArray) (v3 : Int) : TS U := mkS 62
  [(1, TV.ref 0 0 0), (3, TV.v (Value.string v0)), (16, TV.lst C.str ks),
    (17, TV.v (Value.int IntKind.i64 (↑ks.length : Int))), (18, TV.v (Value.int IntKind.i64 v3))]
  [TO.cells [TV.v (Value.bool L), TV.lst C.str ks, TV.lst C.t33 vs, TV.lst C.i64 ki] false] 0
theorem g19_e0 (lp : Lp
  U) (L : Bool) (ks : List
  ByteArray) (vs : List
  R33) (ki : List
  Int) (N : Nat) (v0 : ByteArray) (v3 : Int) : fnLoop X Ep an19 lp Try.f19 0 N.succ (g19_S0 L ks vs ki v0 v3) =
  bif decide (v3 < (↑ks.length : Int)) then
  (getI ks v3).bind fun (z : X.U.T C.str) =>
    (getI vs v3).bind fun (z_1 : X.U.T C.t33) =>
      if PEnt (ByteArray.size z) z_1.Data.size then
        if v0.size + (entB z z_1).size ≤ 9223372036854775807 then
          fnLoop X Ep an19 lp Try.f19 0 N (g19_S0 L ks vs ki (v0 ++ entB z z_1) (IntKind.i64.wrap (v3 + 1)))
        else none
      else none
else some (Exit.exit 0, mkS 62 [(3, TV.v (Value.string v0))] [] 0) := by kernel_rfl
def g19_S2 (L : Bool) (ks : List
  ByteArray) (vs : List
  R33) (ki : List
  Int) (v0 : ByteArray) (v3 : Int) : TS U := mkS 62
  [(1, TV.ref 0 0 0), (3, TV.v (Value.string v0)), (43, TV.lst C.str ks),
    (44, TV.v (Value.int IntKind.i64 (↑ks.length : Int))), (45, TV.v (Value.int IntKind.i64 v3))]
  [TO.cells [TV.v (Value.bool L), TV.lst C.str ks, TV.lst C.t33 vs, TV.lst C.i64 ki] false] 0
theorem g19_e2 (lp : Lp
  U) (L : Bool) (ks : List
  ByteArray) (vs : List
  R33) (ki : List
  Int) (N : Nat) (v0 : ByteArray) (v3 : Int) : fnLoop X Ep an19 lp Try.f19 2 N.succ (g19_S2 L ks vs ki v0 v3) =
  bif decide (v3 < (↑ks.length : Int)) then
  (getI ks v3).bind fun (z : X.U.T C.str) =>
    (getI ki (IntKind.i64.wrap (v3 + 1))).bind fun (z_1 : X.U.T C.i64) =>
      if Sz (ByteArray.size z) then
        if v0.size + (lnkB z z_1).size ≤ 9223372036854775807 then
          fnLoop X Ep an19 lp Try.f19 2 N (g19_S2 L ks vs ki (v0 ++ lnkB z z_1) (IntKind.i64.wrap (v3 + 1)))
        else none
      else none
else some (Exit.exit 2, mkS 62 [(3, TV.v (Value.string v0))] [] 0) := by kernel_rfl
theorem fold_rounds {α β T B : Type} {fnl : Nat → T → Option B} (S : β → Int → T) (Z : β → B) (l : List α) (I : β → Int → Prop) (step : β → α → β)
    (hin : ∀ (N : Nat) (g : β) (v : Int) (z : α), I g v → 0 ≤ v → v < (l.length : Int) → getI l v = some z → fnl (N + 1) (S g v) = fnl N (S (step g z) (v + 1)) ∧ I (step g z) (v + 1))
    (hout : ∀ (N : Nat) (g : β) (v : Int), I g v → ¬ v < (l.length : Int) → fnl (N + 1) (S g v) = some (Z g)) :
    ∀ (N : Nat) (g : β) (v : Int), I g v → 0 ≤ v → (l.length : Int) ≤ v + N → fnl (N + 1) (S g v) = some (Z ((l.drop v.toNat).foldl step g)) := by
  intro N
  induction N with
  | zero =>
    intro g v hI h0 h1
    rw [hout 0 g v hI (by omega), List.drop_eq_nil_of_le (by omega)]
    rfl
  | succ N ih =>
    intro g v hI h0 h1
    by_cases hv : v < (l.length : Int)
    · obtain ⟨x, hx, hx2⟩ := getE (l := l) h0 hv
      obtain ⟨h2, h3⟩ := hin (N + 1) g v x hI h0 hv hx
      have ea : l.drop v.toNat = x :: l.drop (v.toNat + 1) := by
        rw [List.drop_eq_getElem_cons (by omega)]
        rw [List.getElem?_eq_getElem (by omega)] at hx2
        rw [Option.some.inj hx2]
      rw [h2, ih (step g x) (v + 1) h3 (by omega) (by omega), ea, show (v + 1).toNat = v.toNat + 1 by omega]
      rfl
    · rw [hout (N + 1) g v hI hv, List.drop_eq_nil_of_le (by omega)]
      rfl
/-- What stands in a node. -/
structure N3 where
  L : Bool
  K : List ByteArray
  V : List R33
  I : List Int
def N3.ob (n : N3) : TO U := .cells [.v (.bool n.L), .lst .str n.K, .lst .t33 n.V, .lst .i64 n.I] false
def N3.tv (n : N3) : TV U := .agg [.v (.bool n.L), .lst .str n.K, .lst .t33 n.V, .lst .i64 n.I]
def N3.Ok (n : N3) : Prop := Pn n.L n.K n.V n.I
noncomputable instance (n : N3) : Decidable n.Ok := Classical.propDecidable _
def N3.put (n : N3) : ByteArray := putB n.L n.K n.V n.I
def N3.pcs (n : N3) : List ByteArray := Nd.pcs n.L n.K n.V n.I
def N3.hd (n : N3) : ByteArray := hdB n.L n.K n.I
theorem N3.Ok.pcs {n : N3} (h : n.Ok) : n.pcs.length = n.K.length := pcs_len h
theorem N3.Ok.len {n : N3} (h : n.Ok) : n.K.length ≤ 1000000 := h.1
def Z19 (b : ByteArray) : TS U := mkS 62 [(3, .v (.string b))] [] 0
theorem rounds19a (lp : Lp U) (n : N3) (h : n.Ok) (hL : n.L = true) : fnLoop X Ep an19 lp Try.f19 0 (n.pcs.length + 1) (g19_S0 n.L n.K n.V n.I n.hd 0) = some (.exit 0, Z19 n.put) := by
  have hl := h.pcs
  have hk := h.len
  obtain ⟨L, K, V, I⟩ := n
  obtain rfl : L = true := hL
  dsimp only at hl hk ⊢
  refine fold_rounds (fnl := fnLoop X Ep an19 lp Try.f19 0) (fun b v => g19_S0 true K V I b v) (fun b => ((.exit 0, Z19 b) : Exit × TS U)) (pcs true K V I) (fun b v => (b.size : Int) ≤ 20 + 300000000 * v) (· ++ ·) (fun N b v z hI h0 h1 hz => ?_) (fun N b v hI h1 => ?_) _ _ 0 (by
      have := hdB_size true K I
      show ((hdB true K I).size : Int) ≤ _
      omega) (Int.le_refl _) (by show ((pcs true K V I).length : Int) ≤ 0 + ((pcs true K V I).length : Nat); omega)
  · have hl : (pcs true K V I).length = K.length := hl
    obtain ⟨k, w, e1, e2, rfl, e3, e4⟩ := pcs_leaf h hz
    refine ⟨?_, by rw [app_size]; omega⟩
    rw [g19_e0, decide_eq_true (by omega), e1, e2]
    simp only [cond_true, Option.bind_some]
    rw [if_pos e3, if_pos (by omega), wr (by omega) (by omega)]
  · have hl : (pcs true K V I).length = K.length := hl
    rw [g19_e0, decide_eq_false (by omega)]
    rfl
theorem rounds19b (lp : Lp U) (n : N3) (h : n.Ok) (hL : n.L = false) : fnLoop X Ep an19 lp Try.f19 2 (n.pcs.length + 1) (g19_S2 n.L n.K n.V n.I n.hd 0) = some (.exit 2, Z19 n.put) := by
  have hl := h.pcs
  have hk := h.len
  obtain ⟨L, K, V, I⟩ := n
  obtain rfl : L = false := hL
  dsimp only at hl hk ⊢
  refine fold_rounds (fnl := fnLoop X Ep an19 lp Try.f19 2) (fun b v => g19_S2 false K V I b v) (fun b => ((.exit 2, Z19 b) : Exit × TS U)) (pcs false K V I) (fun b v => (b.size : Int) ≤ 20 + 300000000 * v) (· ++ ·) (fun N b v z hI h0 h1 hz => ?_) (fun N b v hI h1 => ?_) _ _ 0 (by
      have := hdB_size false K I
      show ((hdB false K I).size : Int) ≤ _
      omega) (Int.le_refl _) (by show ((pcs false K V I).length : Int) ≤ 0 + ((pcs false K V I).length : Nat); omega)
  · have hl : (pcs false K V I).length = K.length := hl
    obtain ⟨k, w, e1, e2, rfl, e3, e4⟩ := pcs_inner h hz
    refine ⟨?_, by rw [app_size]; omega⟩
    rw [g19_e2, decide_eq_true (by omega), e1]
    simp only [cond_true, Option.bind_some]
    rw [wr (a := v + 1) (by omega) (by omega), e2]
    simp only [Option.bind_some]
    rw [if_pos e3, if_pos (by omega)]
  · have hl : (pcs false K V I).length = K.length := hl
    rw [g19_e2, decide_eq_false (by omega)]
    rfl
def dl19a (s : TS U) : Option (N3 × ByteArray × List ByteArray × Int × Int) := match told s 62 [1, 3, 16, 17, 18] 0, s.objs with
  | some [a0, a1, a2, a3, a4], [o0] =>
    match o0 with
    | .cells [q0, q1, q2, q3] false =>
      match q0 with
      | .v (.bool n_L) =>
        match q1 with
        | .lst .str n_K =>
          match q2 with
          | .lst .t33 n_V =>
            match q3 with
            | .lst .i64 n_I =>
              match a0 with
              | .ref 0 0 0 =>
                match a1 with
                | .v (.string b) =>
                  match a2 with
                  | .lst .str ks =>
                    match a3 with
                    | .v (.int .i64 c) =>
                      match a4 with
                      | .v (.int .i64 v) =>
                        some ((⟨n_L, n_K, n_V, n_I⟩ : N3), b, ks, c, v)
                      | _ => none
                    | _ => none
                  | _ => none
                | _ => none
              | _ => none
            | _ => none
          | _ => none
        | _ => none
      | _ => none
    | _ => none
  | _, _ => none
theorem dl19a_ok {s : TS U} {n : N3} {b : ByteArray} {ks : List ByteArray} {c : Int} {v : Int} (h : dl19a s = some (n, b, ks, c, v)) : s = mkS (U := U) 62 ([1, 3, 16, 17, 18].zip ([.ref 0 0 0, .v (.string b), .lst .str ks, .v (.int .i64 c), .v (.int .i64 v)] : List (TV U))) ([n.ob] : List (TO U)) 0 := by
  unfold dl19a at h
  split at h <;> try (cases h; done)
  rename_i ht ho
  have hs := told_ok ht
  rw [ho] at hs
  repeat' split at h
  all_goals first | (cases h; done) | (cases h; exact hs)
def dl19b (s : TS U) : Option (N3 × ByteArray × List ByteArray × Int × Int) := match told s 62 [1, 3, 43, 44, 45] 0, s.objs with
  | some [a0, a1, a2, a3, a4], [o0] =>
    match o0 with
    | .cells [q0, q1, q2, q3] false =>
      match q0 with
      | .v (.bool n_L) =>
        match q1 with
        | .lst .str n_K =>
          match q2 with
          | .lst .t33 n_V =>
            match q3 with
            | .lst .i64 n_I =>
              match a0 with
              | .ref 0 0 0 =>
                match a1 with
                | .v (.string b) =>
                  match a2 with
                  | .lst .str ks =>
                    match a3 with
                    | .v (.int .i64 c) =>
                      match a4 with
                      | .v (.int .i64 v) =>
                        some ((⟨n_L, n_K, n_V, n_I⟩ : N3), b, ks, c, v)
                      | _ => none
                    | _ => none
                  | _ => none
                | _ => none
              | _ => none
            | _ => none
          | _ => none
        | _ => none
      | _ => none
    | _ => none
  | _, _ => none
theorem dl19b_ok {s : TS U} {n : N3} {b : ByteArray} {ks : List ByteArray} {c : Int} {v : Int} (h : dl19b s = some (n, b, ks, c, v)) : s = mkS (U := U) 62 ([1, 3, 43, 44, 45].zip ([.ref 0 0 0, .v (.string b), .lst .str ks, .v (.int .i64 c), .v (.int .i64 v)] : List (TV U))) ([n.ob] : List (TO U)) 0 := by
  unfold dl19b at h
  split at h <;> try (cases h; done)
  rename_i ht ho
  have hs := told_ok ht
  rw [ho] at hs
  repeat' split at h
  all_goals first | (cases h; done) | (cases h; exact hs)
def P19 (L : Bool) (n : N3) (b : ByteArray) (ks : List ByteArray) (c v : Int) : Prop := n.Ok ∧ n.L = L ∧ b = n.hd ∧ ks = n.K ∧ c = n.K.length ∧ v = 0
noncomputable instance (L : Bool) (n : N3) (b : ByteArray) (ks : List ByteArray) (c v : Int) : Decidable (P19 L n b ks c v) := Classical.propDecidable _
noncomputable def lc19a : LC U := .of dl19a (fun (n, b, ks, c, v) => P19 true n b ks c v) (.exit 0) (fun (n, b, ks, c, v) => Z19 n.put)
noncomputable def lc19b : LC U := .of dl19b (fun (n, b, ks, c, v) => P19 false n b ks c v) (.exit 2) (fun (n, b, ks, c, v) => Z19 n.put)
noncomputable def lp19 : Lp U := lpL [(0, lc19a), (2, lc19b)]
theorem lp19_ok : ∀ c, Try.f19.body = some c → LpOk X Ep an19 lp19 (loops c 0) := lpL_ok (by kernel_rfl) fun b L hm st p hs => by
  cases hm with
  | head =>
    obtain ⟨⟨n, b, ks, c, v⟩, hx, ⟨h1, h2, rfl, rfl, rfl, rfl⟩, rfl⟩ := LC.of_some hs
    obtain rfl := dl19a_ok hx
    exact ⟨_, rounds19a _ n h1 h2⟩
  | tail _ h =>
    cases h with
    | tail _ h => cases h
    | head =>
      obtain ⟨⟨n, b, ks, c, v⟩, hx, ⟨h1, h2, rfl, rfl, rfl, rfl⟩, rfl⟩ := LC.of_some hs
      obtain rfl := dl19b_ok hx
      exact ⟨_, rounds19b _ n h1 h2⟩
theorem e19 (n : N3) : (evFn X Ep an19 lp19 Try.f19 [] [n.tv] fun (o : List (TO X.U)) (v : TV X.U) => some (o, v)) =
  if U64 (IntKind.u64.wrap (↑n.K.length : Int)) then
  bif n.L then
    if P19 true n (numB (IntKind.u64.wrap (↑n.K.length : Int))) n.K (↑n.K.length : Int) 0 then
      some ([], TV.v (Value.string n.put))
    else none
  else
    (getI n.I 0).bind fun (z : X.U.T C.i64) =>
      if U64 (IntKind.u64.wrap z) then
        if
            (numB (IntKind.u64.wrap (↑n.K.length : Int))).size + (numB (IntKind.u64.wrap z)).size ≤
              9223372036854775807 then
          if
              P19 false n (numB (IntKind.u64.wrap (↑n.K.length : Int)) ++ numB (IntKind.u64.wrap z)) n.K
                (↑n.K.length : Int) 0 then
            some ([], TV.v (Value.string n.put))
          else none
        else none
      else none
else none := by kernel_rfl
theorem o19 {n : N3} (h : n.Ok) : evFn X Ep an19 lp19 Try.f19 [] [n.tv] (fun o v => some (o, v)) = some ([], .v (.string n.put)) := by
  rw [e19, if_pos (u64_wrap _)]
  have h' := h
  obtain ⟨_, _, _, h1, h2⟩ := h'
  cases hL : n.L with
  | true =>
    have e : n.hd = numB (IntKind.u64.wrap (n.K.length : Int)) := by unfold N3.hd hdB; rw [hL]; rfl
    rw [cond_true, if_pos ⟨h, hL, e.symm, rfl, rfl, rfl⟩]
  | false =>
    have h2 := h2 hL
    have h3 := numB_size (u64_wrap (n.K.length : Int))
    obtain ⟨z, hz, hz2⟩ := getE (l := n.I) (v := 0) (Int.le_refl _) (by omega)
    have h4 := numB_size (u64_wrap z)
    have e : n.hd = numB (IntKind.u64.wrap (n.K.length : Int)) ++ numB (IntKind.u64.wrap z) := by
      unfold N3.hd hdB
      rw [hL, cond_false]
      cases hI : n.I with
      | nil => rw [hI] at hz; cases hz
      | cons x l => rw [hI] at hz; cases hz; rfl
    rw [cond_false, hz, Option.bind_some, if_pos (u64_wrap _), if_pos (by omega), if_pos ⟨h, hL, e.symm, rfl, rfl, rfl⟩]
def dN3 (objs : List (TO U)) (args : List (TV U)) : Option (N3) := match objs, args with
  | [], [a0] =>
    match a0 with
    | .agg [q0, q1, q2, q3] =>
      match q0 with
      | .v (.bool n_L) =>
        match q1 with
        | .lst .str n_K =>
          match q2 with
          | .lst .t33 n_V =>
            match q3 with
            | .lst .i64 n_I =>
              some (⟨n_L, n_K, n_V, n_I⟩ : N3)
            | _ => none
          | _ => none
        | _ => none
      | _ => none
    | _ => none
  | _, _ => none
theorem dN3_ok {objs : List (TO U)} {args : List (TV U)} {n : N3} (h : dN3 objs args = some n) : objs = [] ∧ args = [n.tv] := by
  unfold dN3 at h
  repeat' split at h
  all_goals first | (cases h; done) | (cases h; exact ⟨rfl, rfl⟩)
noncomputable def sPut0 : Spc U := .of dN3 (fun n => n.Ok) (fun _ => []) fun n => .v (.string n.put)
theorem sPut0_ok : SpecOk Try.prog 19 sPut0 := by
  refine fn_ok X_ok mixed Ep_ok an19 lp19 Try.func19 (by kernel_rfl) (by kernel_rfl) lp19_ok fun objs args n hx hp => ?_
  obtain ⟨rfl, rfl⟩ := dN3_ok hx
  exact o19 hp
noncomputable def sPut : Spc U := sPut0.wkA [.a [.no, .l .str, .l .t33, .l .i64]]
theorem sPut_ok : SpecOk Try.prog 19 sPut := sPut0_ok.wkA _
end Go.Proofs.Ytmcflglkfgnbbaa.Nd

/- Sets as bytes: eight bytes. -/
namespace Go.Proofs.Ytmcflglkfgnbbaa.Bt
open Go Go.RowKit Go.Proofs.Ytmcflglkfgnbbaa.Eng Go.Proofs.Ytmcflglkfgnbbaa.Nd
set_option linter.unusedVariables false
set_option linter.unusedSimpArgs false
set_option maxRecDepth 20000
def an62 : Ann := ⟨fun | 0 => 801 | _ => 0, fun | 0 => 48 | _ => 0, fun _ => [], false⟩
def an67 : Ann := ⟨fun | 0 => 99 | _ => 0, fun | 0 => 48 | _ => 0, fun _ => [], false⟩
noncomputable def lp62 : Lp U := lpL [(0, LC.unr (X := X) E0_ok an62 Try.f62 0 9)]
theorem lp62_ok : ∀ c, Try.f62.body = some c → LpOk X E0 an62 lp62 (loops c 0) := lpL_ok (by kernel_rfl) fun b L hm st p hs => by
  cases hm with
  | head => exact unr_ok (by kernel_rfl) hs
  | tail _ h => cases h
def sh8 (n : Int) : Int := n.fdiv (2 ^ min (Int.toNat 8) IntKind.u64.bits)
def lo8 (n : Int) : Int := IntKind.u8.wrap n
def rm8 (n : Int) : Int := IntKind.u8.wrap (n.tmod 256)
def qu8 (n : Int) : Int := IntKind.u64.wrap (n.tdiv 256)
def fxL (x : Int) : List Int := [lo8 x, lo8 (sh8 x), lo8 (sh8 (sh8 x)), lo8 (sh8 (sh8 (sh8 x))), lo8 (sh8 (sh8 (sh8 (sh8 x)))), lo8 (sh8 (sh8 (sh8 (sh8 (sh8 x))))), lo8 (sh8 (sh8 (sh8 (sh8 (sh8 (sh8 x)))))), lo8 (sh8 (sh8 (sh8 (sh8 (sh8 (sh8 (sh8 x)))))))]
theorem e62 (x : Int) : evFn X E0 an62 lp62 Try.f62 [] [.v (.int .u64 x), .v (.int .i64 8)] (fun o v => some (o, v)) = some ([], .v (.string (strOfNums (fxL x)))) := by kernel_rfl
def S67 (s : ByteArray) (x i : Int) : TS U := mkS 26 [(0, .v (.int .u64 x)), (1, .v (.int .i64 8)), (5, .v (.string s)), (6, .v (.int .i64 i))] [] 0
def Z67 (s : ByteArray) : TS U := mkS 26 [(5, .v (.string s))] [] 0
theorem r67 (lp : Lp
  U) (N : Nat) (s : ByteArray) (x : Int) (i : Int) : (fnLoop X E0 an67 lp Try.f67 0 N.succ (S67 s x i)) =
  bif decide (i < 8) then
  bif decide (i < 8) then
    if s.size + (strOfNums [IntKind.u8.wrap (x.tmod 256)]).size ≤ 9223372036854775807 then
      fnLoop X E0 an67 lp Try.f67 0 N
        (mkS 26
          [(0, TV.v (Value.int IntKind.u64 (IntKind.u64.wrap (x.tdiv 256)))), (1, TV.v (Value.int IntKind.i64 8)),
            (5, TV.v (Value.string (s ++ strOfNums [IntKind.u8.wrap (x.tmod 256)]))),
            (6, TV.v (Value.int IntKind.i64 (IntKind.i64.wrap (i + 1))))]
          [] 0)
    else none
  else some (Exit.exit 0, mkS 26 [(5, TV.v (Value.string s))] [] 0)
else some (Exit.exit 0, mkS 26 [(5, TV.v (Value.string s))] [] 0) := by kernel_rfl
/-- The bytes of a number, the last one first. -/
def by8 : Nat → Nat → List UInt8
  | 0, _ => []
  | k + 1, n => UInt8.ofNat (n % 256) :: by8 k (n / 256)
def strN (l : List UInt8) : ByteArray := ⟨l.toArray⟩
theorem tl8_strN (l : List UInt8) : tl8 (strN l) = l := by unfold tl8 strN; simp
theorem by8_len : ∀ k n, (by8 k n).length = k
  | 0, n => rfl
  | k + 1, n => by unfold by8; rw [List.length_cons, by8_len k]
def fixB (x : Int) : ByteArray := strN (by8 8 x.toNat)
theorem strN_size (l : List UInt8) : (strN l).size = l.length := by rw [← tl8_len, tl8_strN]
theorem fixB_size (x : Int) : (fixB x).size = 8 := by unfold fixB; rw [strN_size, by8_len]
theorem sh8_nat (n : Nat) : sh8 (n : Int) = ((n / 256 : Nat) : Int) := by
  unfold sh8
  have : (2 ^ min (Int.toNat 8) IntKind.u64.bits : Int) = 256 := by decide
  rw [this, Int.fdiv_eq_ediv_of_nonneg (n : Int) (show (0 : Int) ≤ 256 by decide)]
  rfl
theorem lo8_nat (n : Nat) : lo8 (n : Int) = ((n % 256 : Nat) : Int) := wrap_u8 n
theorem fxL_eq (n : Nat) : strOfNums (fxL (n : Int)) = fixB n := tl8_inj (by
  unfold fixB fxL
  rw [tl8_strN, tl8_nums, Int.toNat_natCast]
  simp only [sh8_nat, lo8_nat, List.map_cons, List.map_nil, Int.toNat_natCast, by8])
def d62 (objs : List (TO U)) (args : List (TV U)) : Option (Int × Int) := match objs, args with
  | [], [a0, a1] =>
    match a0 with
    | .v (.int .u64 x) =>
      match a1 with
      | .v (.int .i64 n) =>
        some (x, n)
      | _ => none
    | _ => none
  | _, _ => none
theorem d62_ok {objs : List (TO U)} {args : List (TV U)} {x : Int} {n : Int} (h : d62 objs args = some (x, n)) : objs = [] ∧ args = [.v (.int .u64 x), .v (.int .i64 n)] := by
  unfold d62 at h
  repeat' split at h
  all_goals first | (cases h; done) | (cases h; exact ⟨rfl, rfl⟩)
def P62 (x n : Int) : Prop := U64 x ∧ n = 8
instance (x n : Int) : Decidable (P62 x n) := by unfold P62; infer_instance
def sFix : Spc U := .of d62 (fun (x, n) => P62 x n) (fun _ => []) fun (x, n) => .v (.string (fixB x))
theorem sFix_ok : SpecOk Try.prog 62 sFix := by
  refine fn_ok X_ok mixed E0_ok an62 lp62 Try.func62 (by kernel_rfl) (by kernel_rfl) lp62_ok fun objs args x hx hp => ?_
  obtain ⟨x, n⟩ := x
  obtain ⟨rfl, rfl⟩ := d62_ok hx
  obtain ⟨h1, rfl⟩ := hp
  obtain ⟨x, rfl⟩ := Int.eq_ofNat_of_zero_le h1.1
  refine (e62 x).trans ?_
  rw [fxL_eq]
theorem rounds67 (lp : Lp U) : ∀ (k i x : Nat) (s : ByteArray), i + k = 8 → x < 18446744073709551616 → s.size ≤ i → fnLoop X E0 an67 lp Try.f67 0 (k + 1) (S67 s x i) = some (.exit 0, Z67 (s ++ strN (by8 k x))) := by
  intro k
  induction k with
  | zero =>
    intro i x s hi hx hs
    obtain rfl : i = 8 := by omega
    have : s ++ strN (by8 0 x) = s := tl8_inj (by rw [tl8_append, tl8_strN]; unfold by8; rw [List.append_nil])
    rw [this, r67]
    rfl
  | succ k ih =>
    intro i x s hi hx hs
    have e1 : IntKind.u8.wrap ((x : Int).tmod 256) = ((x % 256 : Nat) : Int) := by
      rw [Int.tmod_eq_emod_of_nonneg (by omega)]
      have := wrap_u8 (x % 256)
      rw [show ((x % 256 : Nat) : Int) = (x : Int) % 256 by omega] at this
      rw [this]
      omega
    have e2 : IntKind.u64.wrap ((x : Int).tdiv 256) = ((x / 256 : Nat) : Int) := by
      rw [Int.tdiv_eq_ediv_of_nonneg (by omega)]
      show ((x : Int) / 256) % (2 ^ 64) = _
      omega
    have e3 : (strOfNums [((x % 256 : Nat) : Int)]).size = 1 := by rw [← tl8_len, tl8_nums]; rfl
    have e4 : s ++ strOfNums [((x % 256 : Nat) : Int)] ++ strN (by8 k (x / 256)) = s ++ strN (by8 (k + 1) x) := tl8_inj (by
      rw [tl8_append, tl8_append, tl8_append, tl8_strN, tl8_strN, tl8_nums, List.append_assoc]
      rfl)
    rw [r67, e1, e2, e3, decide_eq_true (by omega), cond_true, cond_true, if_pos (by omega), wr (a := (i : Int) + 1) (by omega) (by omega), ← e4]
    exact ih (i + 1) (x / 256) _ (by omega) (by omega) (by rw [app_size, e3]; omega)
def dl67 (s : TS U) : Option (Int × Int × ByteArray × Int) := match told s 26 [0, 1, 5, 6] 0, s.objs with
  | some [a0, a1, a2, a3], [] =>
    match a0 with
    | .v (.int .u64 x) =>
      match a1 with
      | .v (.int .i64 n) =>
        match a2 with
        | .v (.string t) =>
          match a3 with
          | .v (.int .i64 i) =>
            some (x, n, t, i)
          | _ => none
        | _ => none
      | _ => none
    | _ => none
  | _, _ => none
theorem dl67_ok {s : TS U} {x : Int} {n : Int} {t : ByteArray} {i : Int} (h : dl67 s = some (x, n, t, i)) : s = mkS (U := U) 26 ([0, 1, 5, 6].zip ([.v (.int .u64 x), .v (.int .i64 n), .v (.string t), .v (.int .i64 i)] : List (TV U))) ([] : List (TO U)) 0 := by
  unfold dl67 at h
  split at h <;> try (cases h; done)
  rename_i ht ho
  have hs := told_ok ht
  rw [ho] at hs
  repeat' split at h
  all_goals first | (cases h; done) | (cases h; exact hs)
def P67 (x n : Int) (s : ByteArray) (i : Int) : Prop := U64 x ∧ n = 8 ∧ s = ⟨#[]⟩ ∧ i = 0
noncomputable instance (x n : Int) (s : ByteArray) (i : Int) : Decidable (P67 x n s i) := Classical.propDecidable _
noncomputable def lc67 : LC U := .of dl67 (fun (x, n, s, i) => P67 x n s i) (.exit 0) fun (x, n, s, i) => Z67 (fixB x)
noncomputable def lp67 : Lp U := lpL [(0, lc67)]
theorem lp67_ok : ∀ c, Try.f67.body = some c → LpOk X E0 an67 lp67 (loops c 0) := lpL_ok (by kernel_rfl) fun b L hm st p hs => by
  cases hm with
  | head =>
    obtain ⟨⟨x, n, s, i⟩, hx, ⟨h1, rfl, rfl, rfl⟩, rfl⟩ := LC.of_some hs
    obtain rfl := dl67_ok hx
    obtain ⟨x, rfl⟩ := Int.eq_ofNat_of_zero_le h1.1
    refine ⟨_, (rounds67 _ 8 0 x ⟨#[]⟩ rfl (by have := h1.2; omega) (Nat.le_refl 0)).trans ?_⟩
    have : (⟨#[]⟩ : ByteArray) ++ strN (by8 8 x) = fixB x := tl8_inj (by
      unfold fixB
      rw [tl8_append, tl8_strN, tl8_strN, Int.toNat_natCast]
      rfl)
    rw [this]
  | tail _ hm => cases hm
theorem e67 (x : Int) : (evFn X E0 an67 lp67 Try.f67 [] [TV.v (Value.int IntKind.u64 x), TV.v (Value.int IntKind.i64 8)]
  fun (o : List (TO X.U)) (v : TV X.U) => some (o, v)) =
  if P67 x 8 (⟨#[]⟩ : ByteArray) 0 then some ([], TV.v (Value.string (fixB x))) else none := by kernel_rfl
noncomputable def sFixR : Spc U := .of d62 (fun (x, n) => P62 x n) (fun _ => []) fun (x, n) => .v (.string (fixB x))
theorem sFixR_ok : SpecOk Try.prog 67 sFixR := by
  refine fn_ok X_ok mixed E0_ok an67 lp67 Try.func67 (by kernel_rfl) (by kernel_rfl) lp67_ok fun objs args x hx hp => ?_
  obtain ⟨x, n⟩ := x
  obtain ⟨rfl, rfl⟩ := d62_ok hx
  obtain ⟨h1, rfl⟩ := hp
  exact (e67 x).trans (if_pos ⟨h1, rfl, rfl, rfl⟩)
/-! ### A set's bytes -/
def E27 : FuncId → Option (Spc U)
  | 46 => some sNum
  | 62 => some sFix
  | _ => none
theorem E27_ok : ∀ f S, E27 f = some S → SpecOk Try.prog f S := fun f S h => by
  unfold E27 at h
  split at h
  · cases h; exact sNum_ok
  · cases h; exact sFix_ok
  · cases h
def an27 : Ann := ⟨fun | 0 => 57368 | _ => 0, fun | 0 => 12 | _ => 0, fun _ => [], false⟩
def g27_S0 (ps : List
  R100) (v0 : ByteArray) (v1 : Int) (v4 : Int) : TS U := mkS 36
  [(3, TV.v (Value.string v0)), (4, TV.v (Value.int IntKind.i64 v1)), (13, TV.lst C.t100 ps),
    (14, TV.v (Value.int IntKind.i64 (↑ps.length : Int))), (15, TV.v (Value.int IntKind.i64 v4))]
  [] 0
theorem g27_e0 (lp : Lp
  U) (ps : List
  R100) (N : Nat) (v0 : ByteArray) (v1 : Int) (v4 : Int) : fnLoop X E27 an27 lp Try.f27 0 N.succ (g27_S0 ps v0 v1 v4) =
  bif decide (v4 < (↑ps.length : Int)) then
  (getI ps v4).bind fun (z : X.U.T C.t100) =>
    if U64 (IntKind.u64.wrap (IntKind.i64.wrap (z.At - v1))) then
      if P62 z.Bits 8 then
        if (numB (IntKind.u64.wrap (IntKind.i64.wrap (z.At - v1)))).size + (fixB z.Bits).size ≤ 9223372036854775807 then
          if
              v0.size + (numB (IntKind.u64.wrap (IntKind.i64.wrap (z.At - v1))) ++ fixB z.Bits).size ≤
                9223372036854775807 then
            fnLoop X E27 an27 lp Try.f27 0 N
              (g27_S0 ps (v0 ++ (numB (IntKind.u64.wrap (IntKind.i64.wrap (z.At - v1))) ++ fixB z.Bits))
                (IntKind.i64.wrap (z.At + 1)) (IntKind.i64.wrap (v4 + 1)))
          else none
        else none
      else none
    else none
else some (Exit.exit 0, mkS 36 [(3, TV.v (Value.string v0))] [] 0) := by kernel_rfl
/-- A part's bytes, behind what is so far, from a place on. -/
def stB (g : ByteArray × Int) (p : R100) : ByteArray × Int := (g.1 ++ (numB (IntKind.u64.wrap (p.At - g.2)) ++ fixB p.Bits), p.At + 1)
def putS (ps : List R100) : ByteArray := (ps.foldl stB (numB (IntKind.u64.wrap (ps.length : Int)), 0)).1
def Z27 (b : ByteArray) : TS U := mkS 36 [(3, .v (.string b))] [] 0
theorem rounds27 (lp : Lp U) (ps : List R100) (h : OkP ps) : fnLoop X E27 an27 lp Try.f27 0 (ps.length + 1) (g27_S0 ps (numB (IntKind.u64.wrap (ps.length : Int))) 0 0) = some (.exit 0, Z27 (putS ps)) := by
  have hlen := h.len
  refine fold_rounds (fnl := fnLoop X E27 an27 lp Try.f27 0) (fun (g : ByteArray × Int) v => g27_S0 ps g.1 g.2 v) (fun g => ((.exit 0, Z27 g.1) : Exit × TS U)) ps (fun g v => (g.1.size : Int) ≤ 10 + 18 * v ∧ 0 ≤ g.2 ∧ g.2 ≤ 16384) stB (fun N g v z hI h0 h1 hz => ?_) (fun N g v hI h1 => ?_) _ (_, 0) 0 ⟨by have := numB_size (u64_wrap (ps.length : Int)); show ((numB _).size : Int) ≤ _; omega, Int.le_refl 0, by show (0 : Int) ≤ 16384; omega⟩ (Int.le_refl _) (by omega)
  · obtain ⟨b, nx⟩ := g
    obtain ⟨i1, i2, i3⟩ := hI
    dsimp only at i1 i2 i3
    have hzm : z ∈ ps := by
      have hz' := hz
      unfold getI at hz'
      rw [if_pos h0] at hz'
      exact List.mem_of_getElem? hz'
    have hb := h.2 z hzm
    have hn := numB_size (u64_wrap (z.At - nx))
    have hf := fixB_size z.Bits
    have hU : U64 z.Bits := ⟨by omega, hb.2.2⟩
    unfold stB
    dsimp only
    refine ⟨?_, by rw [app_size, app_size]; omega, by omega, by omega⟩
    rw [g27_e0, decide_eq_true h1, hz, cond_true, Option.bind_some, wr (a := z.At - nx) (by omega) (by omega), if_pos (u64_wrap _), if_pos (show P62 z.Bits 8 from ⟨hU, rfl⟩), if_pos (by omega), if_pos (by rw [app_size]; omega), wr (a := z.At + 1) (by omega) (by omega), wr (a := v + 1) (by omega) (by omega)]
  · rw [g27_e0, decide_eq_false h1]
    rfl
def dl27 (s : TS U) : Option (ByteArray × Int × List R100 × Int × Int) := match told s 36 [3, 4, 13, 14, 15] 0, s.objs with
  | some [a0, a1, a2, a3, a4], [] =>
    match a0 with
    | .v (.string b) =>
      match a1 with
      | .v (.int .i64 nx) =>
        match a2 with
        | .lst .t100 ps =>
          match a3 with
          | .v (.int .i64 c) =>
            match a4 with
            | .v (.int .i64 v) =>
              some (b, nx, ps, c, v)
            | _ => none
          | _ => none
        | _ => none
      | _ => none
    | _ => none
  | _, _ => none
theorem dl27_ok {s : TS U} {b : ByteArray} {nx : Int} {ps : List R100} {c : Int} {v : Int} (h : dl27 s = some (b, nx, ps, c, v)) : s = mkS (U := U) 36 ([3, 4, 13, 14, 15].zip ([.v (.string b), .v (.int .i64 nx), .lst .t100 ps, .v (.int .i64 c), .v (.int .i64 v)] : List (TV U))) ([] : List (TO U)) 0 := by
  unfold dl27 at h
  split at h <;> try (cases h; done)
  rename_i ht ho
  have hs := told_ok ht
  rw [ho] at hs
  repeat' split at h
  all_goals first | (cases h; done) | (cases h; exact hs)
def P27 (b : ByteArray) (nx : Int) (ps : List R100) (c v : Int) : Prop := OkP ps ∧ b = numB (IntKind.u64.wrap (ps.length : Int)) ∧ nx = 0 ∧ c = ps.length ∧ v = 0
noncomputable instance (b : ByteArray) (nx : Int) (ps : List R100) (c v : Int) : Decidable (P27 b nx ps c v) := Classical.propDecidable _
noncomputable def lc27 : LC U := .of dl27 (fun (b, nx, ps, c, v) => P27 b nx ps c v) (.exit 0) fun (b, nx, ps, c, v) => Z27 (putS ps)
noncomputable def lp27 : Lp U := lpL [(0, lc27)]
theorem lp27_ok : ∀ c, Try.f27.body = some c → LpOk X E27 an27 lp27 (loops c 0) := lpL_ok (by kernel_rfl) fun b L hm st p hs => by
  cases hm with
  | head =>
    obtain ⟨⟨b, nx, ps, c, v⟩, hx, ⟨h1, rfl, rfl, rfl, rfl⟩, rfl⟩ := LC.of_some hs
    obtain rfl := dl27_ok hx
    exact ⟨_, rounds27 _ ps h1⟩
  | tail _ hm => cases hm
theorem e27 (ps : List
  R100) : (evFn X E27 an27 lp27 Try.f27 [] [setT ps] fun (o : List (TO X.U)) (v : TV X.U) => some (o, v)) =
  if U64 (IntKind.u64.wrap (↑ps.length : Int)) then
  if P27 (numB (IntKind.u64.wrap (↑ps.length : Int))) 0 ps (↑ps.length : Int) 0 then
    some ([], TV.v (Value.string (putS ps)))
  else none
else none := by kernel_rfl
def dSt (objs : List (TO U)) (args : List (TV U)) : Option (List R100) := match objs, args with
  | [], [a0] =>
    match a0 with
    | .agg [q0] =>
      match q0 with
      | .lst .t100 ps =>
        some ps
      | _ => none
    | _ => none
  | _, _ => none
theorem dSt_ok {objs : List (TO U)} {args : List (TV U)} {ps : List R100} (h : dSt objs args = some ps) : objs = [] ∧ args = [.agg [.lst .t100 ps]] := by
  unfold dSt at h
  repeat' split at h
  all_goals first | (cases h; done) | (cases h; exact ⟨rfl, rfl⟩)
noncomputable def sPutS0 : Spc U := .of dSt (fun ps => PWith ps) (fun _ => []) fun ps => .v (.string (putS ps))
theorem sPutS0_ok : SpecOk Try.prog 27 sPutS0 := by
  refine fn_ok X_ok mixed E27_ok an27 lp27 Try.func27 (by kernel_rfl) (by kernel_rfl) lp27_ok fun objs args ps hx hp => ?_
  obtain ⟨rfl, rfl⟩ := dSt_ok hx
  refine (e27 ps).trans ?_
  rw [if_pos (u64_wrap _), if_pos (show P27 (numB (IntKind.u64.wrap (ps.length : Int))) 0 ps ps.length 0 from ⟨hp, rfl, rfl, rfl, rfl⟩)]
noncomputable def sPutS : Spc U := sPutS0.wkA [.a [.l .t100]]
theorem sPutS_ok : SpecOk Try.prog 27 sPutS := sPutS0_ok.wkA _
end Go.Proofs.Ytmcflglkfgnbbaa.Bt

