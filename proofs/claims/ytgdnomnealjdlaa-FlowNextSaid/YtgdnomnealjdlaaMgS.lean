/- Texts of this claim, put together: part 19. -/
import Derived.Test.YtgdnomnealjdlaaMgR
/- What may be called. -/
namespace Go.Proofs.Ytgdnomnealjdlaa.Fl
open Go Go.RowKit Go.Proofs.Ytgdnomnealjdlaa.Eng
set_option linter.unusedVariables false
set_option linter.unusedSimpArgs false
set_option maxRecDepth 20000
def an17 : Ann := ⟨fun | 0 => 30064771098 | _ => 0, fun | 0 => 282 | _ => 0, fun _ => [], false⟩
def an18 : Ann := ⟨fun | 0 => 542 | _ => 0, fun | 0 => 282 | _ => 0, fun _ => [], false⟩
/-- The types of variables. -/
def vOf (o : IRs) (l : List Int) : List Int := l.map fun x => (getI o.V x).getD 0
def InV (o : IRs) (l : List Int) : Prop := ∀ a ∈ l, 0 ≤ a ∧ a < (o.V.length : Int)
def RngF (o : IRs) : Prop := ∀ z ∈ o.Fs, InV o z.Params
def PreF (o : IRs) (l : List Int) (to : Int) : Prop := RngF o ∧ InV o l ∧ to < (o.V.length : Int) ∧ l.length ≤ 3000000
noncomputable instance (o : IRs) (l : List Int) (to : Int) : Decidable (PreF o l to) := Classical.propDecidable _
theorem getI_map {α β : Type} (g : α → β) (l : List α) (v : Int) : getI (l.map g) v = (getI l v).map g := by
  unfold getI
  split
  · rw [List.getElem?_map]
  · rfl
theorem getI_mem {α : Type} {l : List α} {v : Int} {x : α} (h : getI l v = some x) : x ∈ l := by
  unfold getI at h
  split at h
  · exact List.mem_of_getElem? h
  · cases h
theorem InV.get {o : IRs} {l : List Int} (h : InV o l) {v x : Int} (hv : getI (vOf o l) v = some x) : ∃ a, getI l v = some a ∧ getI o.V a = some x := by
  unfold vOf at hv
  rw [getI_map, Option.map_eq_some_iff] at hv
  obtain ⟨a, ha, rfl⟩ := hv
  obtain ⟨h0, h1⟩ := h a (getI_mem ha)
  obtain ⟨z, hz, _⟩ := getI_lt h0 h1
  exact ⟨a, ha, by rw [hz]; rfl⟩
def S17 (o : IRs) (f : Int) (l : List Int) (to : Int) (v : Int) : TS U := mkS 75 [(1, .v (.int .i64 f)), (3, .v (.int .i64 to)), (4, .ref 0 0 0), (32, .lst .i64 l), (33, .v (.int .i64 (l.length : Int))), (34, .v (.int .i64 v))] [irOb o] 0
def S18 (o : IRs) (f : Int) (l : List Int) (to : Int) (v : Int) : TS U := mkS 75 [(1, .v (.int .i64 f)), (2, .lst .i64 l), (3, .v (.int .i64 to)), (4, .ref 0 0 0), (9, .v (.int .i64 v))] [irOb o] 0
def Y17 (o : IRs) (f to : Int) : Exit × TS U := (.ret, mkS 75 [(1, .v (.int .i64 f)), (3, .v (.int .i64 to)), (4, .ref 0 0 0), (8, .v (.bool false))] [irOb o] 0)
def Z17 (o : IRs) (f to : Int) : Exit × TS U := (.exit 0, mkS 75 [(1, .v (.int .i64 f)), (3, .v (.int .i64 to)), (4, .ref 0 0 0)] [irOb o] 0)
theorem r17 (lp : Lp U) (N : Nat) (o : IRs) (f : Int) (l : List Int) (to v : Int) : fnLoop X (fun _ => none) an17 lp Try.f17 0 (N + 1) (S17 o f l to v) = cond (decide (v < (l.length : Int))) ((getI l v).bind fun a => (getI o.V a).bind fun x => (getI o.Fs f).bind fun z => (getI z.Params v).bind fun b => (getI o.V b).bind fun y => cond (!decide (x = y)) (some (Y17 o f to)) (fnLoop X (fun _ => none) an17 lp Try.f17 0 N (S17 o f l to (IntKind.i64.wrap (v + 1))))) (some (Z17 o f to)) := by kernel_rfl
theorem r18 (lp : Lp U) (N : Nat) (o : IRs) (f : Int) (l : List Int) (to v : Int) : fnLoop X (fun _ => none) an18 lp Try.f18 0 (N + 1) (S18 o f l to v) = cond (decide (v < (l.length : Int))) ((getI l v).bind fun a => (getI o.V a).bind fun x => (getI o.Fs f).bind fun z => (getI z.Params v).bind fun b => (getI o.V b).bind fun y => cond (!decide (x = y)) (some (Y17 o f to)) (fnLoop X (fun _ => none) an18 lp Try.f18 0 N (S18 o f l to (IntKind.i64.wrap (v + 1))))) (some (Z17 o f to)) := by kernel_rfl
theorem rounds17 (lp : Lp U) {o : IRs} {f : Int} {l : List Int} {to : Int} {z : R69} (hz : getI o.Fs f = some z) (hl : InV o l) (hp : InV o z.Params) (h1 : l.length ≤ 3000000) (h2 : l.length = z.Params.length) : fnLoop X (fun _ => none) an17 lp Try.f17 0 (l.length + 1) (S17 o f l to 0) = some (cond (eqI (vOf o l) (vOf o z.Params)) (Z17 o f to) (Y17 o f to)) := by
  have e1 : (vOf o l).length = l.length := List.length_map _
  have e2 : (vOf o z.Params).length = z.Params.length := List.length_map _
  have h := eq_rounds (a := vOf o l) (b := vOf o z.Params) (fnl := fun n st => fnLoop X (fun _ => none) an17 lp Try.f17 0 n st) (S := S17 o f l to) (rt := Y17 o f to) (ex := Z17 o f to) (by omega) (by omega) (fun N v x y h0 h1 hx hy => by
    obtain ⟨a, ha, hax⟩ := hl.get hx
    obtain ⟨b, hb, hby⟩ := hp.get hy
    dsimp only
    rw [r17, decide_eq_true (by rw [e1] at h1; exact h1), ha, Option.bind_some, hax, Option.bind_some, hz, Option.bind_some, hb, Option.bind_some, hby]
    rfl) (fun N v h => by dsimp only; rw [r17, decide_eq_false (by rw [e1] at h; exact h)]; rfl) l.length 0 (Int.le_refl 0) (by omega)
  exact h
theorem rounds18 (lp : Lp U) {o : IRs} {f : Int} {l : List Int} {to : Int} {z : R69} (hz : getI o.Fs f = some z) (hl : InV o l) (hp : InV o z.Params) (h1 : l.length ≤ 3000000) (h2 : l.length = z.Params.length) : fnLoop X (fun _ => none) an18 lp Try.f18 0 (l.length + 1) (S18 o f l to 0) = some (cond (eqI (vOf o l) (vOf o z.Params)) (Z17 o f to) (Y17 o f to)) := by
  have e1 : (vOf o l).length = l.length := List.length_map _
  have e2 : (vOf o z.Params).length = z.Params.length := List.length_map _
  have h := eq_rounds (a := vOf o l) (b := vOf o z.Params) (fnl := fun n st => fnLoop X (fun _ => none) an18 lp Try.f18 0 n st) (S := S18 o f l to) (rt := Y17 o f to) (ex := Z17 o f to) (by omega) (by omega) (fun N v x y h0 h1 hx hy => by
    obtain ⟨a, ha, hax⟩ := hl.get hx
    obtain ⟨b, hb, hby⟩ := hp.get hy
    dsimp only
    rw [r18, decide_eq_true (by rw [e1] at h1; exact h1), ha, Option.bind_some, hax, Option.bind_some, hz, Option.bind_some, hb, Option.bind_some, hby]
    rfl) (fun N v h => by dsimp only; rw [r18, decide_eq_false (by rw [e1] at h; exact h)]; rfl) l.length 0 (Int.le_refl 0) (by omega)
  exact h
def dl17 (s : TS U) : Option (IRs × Int × Int × List Int × Int × Int) := match told s 75 [1, 3, 4, 32, 33, 34] 0, s.objs with
  | some [a0, a1, a2, a3, a4, a5], [o0] =>
    match o0 with
    | .cells [q0, q1, q2, q3, q4, q5] false =>
      match q0 with
      | .lst .i64 o_G =>
        match q1 with
        | .lst .i64 o_F =>
          match q2 with
          | .lst .i64 o_V =>
            match q3 with
            | .lst .t69 o_Fs =>
              match q4 with
              | .lst .t65 o_C =>
                match q5 with
                | .v (.int .i64 o_Main) =>
                  match a0 with
                  | .v (.int .i64 f) =>
                    match a1 with
                    | .v (.int .i64 to) =>
                      match a2 with
                      | .ref 0 0 0 =>
                        match a3 with
                        | .lst .i64 l =>
                          match a4 with
                          | .v (.int .i64 n) =>
                            match a5 with
                            | .v (.int .i64 v) =>
                              some ((⟨o_G, o_F, o_V, o_Fs, o_C, o_Main⟩ : IRs), f, to, l, n, v)
                            | _ => none
                          | _ => none
                        | _ => none
                      | _ => none
                    | _ => none
                  | _ => none
                | _ => none
              | _ => none
            | _ => none
          | _ => none
        | _ => none
      | _ => none
    | _ => none
  | _, _ => none
theorem dl17_ok {s : TS U} {o : IRs} {f : Int} {to : Int} {l : List Int} {n : Int} {v : Int} (h : dl17 s = some (o, f, to, l, n, v)) : s = mkS (U := U) 75 ([1, 3, 4, 32, 33, 34].zip ([.v (.int .i64 f), .v (.int .i64 to), .ref 0 0 0, .lst .i64 l, .v (.int .i64 n), .v (.int .i64 v)] : List (TV U))) ([o.ob] : List (TO U)) 0 := by
  unfold dl17 at h
  split at h <;> try (cases h; done)
  rename_i ht ho
  have hs := told_ok ht
  rw [ho] at hs
  repeat' split at h
  all_goals first | (cases h; done) | (cases h; exact hs)
def dl18 (s : TS U) : Option (IRs × Int × List Int × Int × Int) := match told s 75 [1, 2, 3, 4, 9] 0, s.objs with
  | some [a0, a1, a2, a3, a4], [o0] =>
    match o0 with
    | .cells [q0, q1, q2, q3, q4, q5] false =>
      match q0 with
      | .lst .i64 o_G =>
        match q1 with
        | .lst .i64 o_F =>
          match q2 with
          | .lst .i64 o_V =>
            match q3 with
            | .lst .t69 o_Fs =>
              match q4 with
              | .lst .t65 o_C =>
                match q5 with
                | .v (.int .i64 o_Main) =>
                  match a0 with
                  | .v (.int .i64 f) =>
                    match a1 with
                    | .lst .i64 l =>
                      match a2 with
                      | .v (.int .i64 to) =>
                        match a3 with
                        | .ref 0 0 0 =>
                          match a4 with
                          | .v (.int .i64 v) =>
                            some ((⟨o_G, o_F, o_V, o_Fs, o_C, o_Main⟩ : IRs), f, l, to, v)
                          | _ => none
                        | _ => none
                      | _ => none
                    | _ => none
                  | _ => none
                | _ => none
              | _ => none
            | _ => none
          | _ => none
        | _ => none
      | _ => none
    | _ => none
  | _, _ => none
theorem dl18_ok {s : TS U} {o : IRs} {f : Int} {l : List Int} {to : Int} {v : Int} (h : dl18 s = some (o, f, l, to, v)) : s = mkS (U := U) 75 ([1, 2, 3, 4, 9].zip ([.v (.int .i64 f), .lst .i64 l, .v (.int .i64 to), .ref 0 0 0, .v (.int .i64 v)] : List (TV U))) ([o.ob] : List (TO U)) 0 := by
  unfold dl18 at h
  split at h <;> try (cases h; done)
  rename_i ht ho
  have hs := told_ok ht
  rw [ho] at hs
  repeat' split at h
  all_goals first | (cases h; done) | (cases h; exact hs)
def Pre17 (o : IRs) (f : Int) (l : List Int) (n v : Int) : Prop := (∃ z, getI o.Fs f = some z ∧ InV o l ∧ InV o z.Params ∧ l.length ≤ 3000000 ∧ l.length = z.Params.length) ∧ n = l.length ∧ v = 0
noncomputable instance (o : IRs) (f : Int) (l : List Int) (n v : Int) : Decidable (Pre17 o f l n v) := Classical.propDecidable _
def eqF (o : IRs) (f : Int) (l : List Int) : Bool := match getI o.Fs f with
  | some z => eqI (vOf o l) (vOf o z.Params)
  | none => false
noncomputable def lc17 : LC U := .of2 dl17 (fun (o, f, to, l, n, v) => Pre17 o f l n v) (fun (o, f, to, l, n, v) => eqF o f l) (.exit 0) (fun (o, f, to, l, n, v) => (Z17 o f to).2) .ret (fun (o, f, to, l, n, v) => (Y17 o f to).2)
noncomputable def lc18 : LC U := .of2 dl18 (fun (o, f, l, to, v) => Pre17 o f l l.length v) (fun (o, f, l, to, v) => eqF o f l) (.exit 0) (fun (o, f, l, to, v) => (Z17 o f to).2) .ret (fun (o, f, l, to, v) => (Y17 o f to).2)
theorem lp17_ok : ∀ c, Try.f17.body = some c → LpOk X (fun _ => none) an17 (lpL [(0, lc17)]) (loops c 0) := lpL_ok (by kernel_rfl) fun b L hm st p hs => by
  cases hm with
  | tail _ h => cases h
  | head =>
    obtain ⟨⟨o, f, to, l, n, v⟩, hx, ⟨⟨z, hz, h1, h2, h3, h4⟩, rfl, rfl⟩, rfl⟩ := LC.of2_some hs
    obtain rfl := dl17_ok hx
    have e : eqF o f l = eqI (vOf o l) (vOf o z.Params) := by unfold eqF; rw [hz]
    refine ⟨_, (rounds17 _ hz h1 h2 h3 h4).trans ?_⟩
    dsimp only
    rw [e]
    rfl
theorem lp18_ok : ∀ c, Try.f18.body = some c → LpOk X (fun _ => none) an18 (lpL [(0, lc18)]) (loops c 0) := lpL_ok (by kernel_rfl) fun b L hm st p hs => by
  cases hm with
  | tail _ h => cases h
  | head =>
    obtain ⟨⟨o, f, l, to, v⟩, hx, ⟨⟨z, hz, h1, h2, h3, h4⟩, _, rfl⟩, rfl⟩ := LC.of2_some hs
    obtain rfl := dl18_ok hx
    have e : eqF o f l = eqI (vOf o l) (vOf o z.Params) := by unfold eqF; rw [hz]
    refine ⟨_, (rounds18 _ hz h1 h2 h3 h4).trans ?_⟩
    dsimp only
    rw [e]
    rfl
theorem e17 (o : IRs) (f : Int) (l : List
  Int) (to : Int) : (evFn X (fun (x : FuncId) => none) an17 (lpL [(0, lc17)]) Try.f17 []
  [irV o, TV.v (Value.int IntKind.i64 f), TV.lst C.i64 l, TV.v (Value.int IntKind.i64 to)]
  fun (o : List (TO X.U)) (v : TV X.U) => some (o, v)) =
  bif decide (f < 0) then some ([], TV.v (Value.bool false))
else
  bif decide ((↑o.Fs.length : Int) ≤ f) then some ([], TV.v (Value.bool false))
  else
    (getI o.Fs f).bind fun (z : X.U.T C.t69) =>
      bif !decide ((↑z.Params.length : Int) = (↑l.length : Int)) then some ([], TV.v (Value.bool false))
      else
        if Pre17 o f l (↑l.length : Int) 0 then
          bif eqF o f l then
            bif decide (to < 0) then some ([], TV.v (Value.bool true))
            else
              (getI o.V to).bind fun (z : X.U.T C.i64) =>
                (getI o.Fs f).bind fun (z_1 : X.U.T C.t69) => some ([], TV.v (Value.bool (decide (z = z_1.Ret))))
          else some ([], TV.v (Value.bool false))
        else none := by kernel_rfl
theorem e18 (o : IRs) (f : Int) (l : List
  Int) (to : Int) : (evFn X (fun (x : FuncId) => none) an18 (lpL [(0, lc18)]) Try.f18 []
  [irV o, TV.v (Value.int IntKind.i64 f), TV.lst C.i64 l, TV.v (Value.int IntKind.i64 to)]
  fun (o : List (TO X.U)) (v : TV X.U) => some (o, v)) =
  bif decide (f < 0) then some ([], TV.v (Value.bool false))
else
  bif decide ((↑o.Fs.length : Int) ≤ f) then some ([], TV.v (Value.bool false))
  else
    (getI o.Fs f).bind fun (z : X.U.T C.t69) =>
      bif !decide ((↑l.length : Int) = (↑z.Params.length : Int)) then some ([], TV.v (Value.bool false))
      else
        if Pre17 o f l (↑l.length : Int) 0 then
          bif eqF o f l then
            bif decide (to < 0) then some ([], TV.v (Value.bool true))
            else
              (getI o.V to).bind fun (z : X.U.T C.i64) =>
                (getI o.Fs f).bind fun (z_1 : X.U.T C.t69) => some ([], TV.v (Value.bool (decide (z = z_1.Ret))))
          else some ([], TV.v (Value.bool false))
        else none := by kernel_rfl
def fitsP (o : IRs) (f : Int) (l : List Int) (to : Int) : Bool := cond (decide (f < 0)) false (cond (decide ((o.Fs.length : Int) ≤ f)) false (match getI o.Fs f with
  | some z => cond (!decide ((z.Params.length : Int) = l.length)) false (cond (eqF o f l) (cond (decide (to < 0)) true (decide ((getI o.V to).getD 0 = z.Ret))) false)
  | none => false))
def dFit (objs : List (TO U)) (args : List (TV U)) : Option (IRs × Int × List Int × Int) := match objs, args with
  | [], [a0, a1, a2, a3] =>
    match a0 with
    | .agg [q0, q1, q2, q3, q4, q5] =>
      match q0 with
      | .lst .i64 o_G =>
        match q1 with
        | .lst .i64 o_F =>
          match q2 with
          | .lst .i64 o_V =>
            match q3 with
            | .lst .t69 o_Fs =>
              match q4 with
              | .lst .t65 o_C =>
                match q5 with
                | .v (.int .i64 o_Main) =>
                  match a1 with
                  | .v (.int .i64 f) =>
                    match a2 with
                    | .lst .i64 l =>
                      match a3 with
                      | .v (.int .i64 to) =>
                        some ((⟨o_G, o_F, o_V, o_Fs, o_C, o_Main⟩ : IRs), f, l, to)
                      | _ => none
                    | _ => none
                  | _ => none
                | _ => none
              | _ => none
            | _ => none
          | _ => none
        | _ => none
      | _ => none
    | _ => none
  | _, _ => none
theorem dFit_ok {objs : List (TO U)} {args : List (TV U)} {o : IRs} {f : Int} {l : List Int} {to : Int} (h : dFit objs args = some (o, f, l, to)) : objs = [] ∧ args = [o.tv, .v (.int .i64 f), .lst .i64 l, .v (.int .i64 to)] := by
  unfold dFit at h
  repeat' split at h
  all_goals first | (cases h; done) | (cases h; exact ⟨rfl, rfl⟩)
noncomputable def sFits : Spc U := .of dFit (fun (o, f, l, to) => PreF o l to) (fun _ => []) fun (o, f, l, to) => .v (.bool (fitsP o f l to))
end Go.Proofs.Ytgdnomnealjdlaa.Fl

/- What may be called: the law. -/
namespace Go.Proofs.Ytgdnomnealjdlaa.Fl
open Go Go.RowKit Go.Proofs.Ytgdnomnealjdlaa.Eng
set_option linter.unusedVariables false
set_option linter.unusedSimpArgs false
set_option maxRecDepth 20000
theorem fits_pre {o : IRs} {f : Int} {l : List Int} {to : Int} (hp : PreF o l to) {z : R69} (hz : getI o.Fs f = some z) (hl : (z.Params.length : Int) = (l.length : Int)) : Pre17 o f l (l.length : Int) 0 := ⟨⟨z, hz, hp.2.1, hp.1 z (getI_mem hz), hp.2.2.2, by omega⟩, rfl, rfl⟩
theorem fits_get {o : IRs} {f : Int} (h1 : decide (f < 0) = false) (h2 : decide ((o.Fs.length : Int) ≤ f) = false) : ∃ z, getI o.Fs f = some z := by
  have h1 := of_decide_eq_false h1
  have h2 := of_decide_eq_false h2
  obtain ⟨z, hz, _⟩ := getI_lt (l := o.Fs) (v := f) (by omega) (by omega)
  exact ⟨z, hz⟩
theorem fits_to {o : IRs} {to : Int} (h1 : decide (to < 0) = false) (h2 : to < (o.V.length : Int)) : ∃ x, getI o.V to = some x := by
  have h1 := of_decide_eq_false h1
  obtain ⟨z, hz, _⟩ := getI_lt (l := o.V) (v := to) (by omega) h2
  exact ⟨z, hz⟩
theorem sFits17_ok : SpecOk Try.prog 17 sFits := by
  refine fn_ok X_ok mixed E0_ok an17 (lpL [(0, lc17)]) Try.func17 (by kernel_rfl) (by kernel_rfl) lp17_ok fun objs args x hx hp => ?_
  obtain ⟨o, f, l, to⟩ := x
  obtain ⟨rfl, rfl⟩ := dFit_ok hx
  dsimp only at hp ⊢
  refine (e17 o f l to).trans ?_
  unfold fitsP
  cases h1 : decide (f < 0) with
  | true => rfl
  | false =>
    cases h2 : decide ((o.Fs.length : Int) ≤ f) with
    | true => rfl
    | false =>
      obtain ⟨z, hz⟩ := fits_get h1 h2
      rw [hz]
      simp only [cond_false, Option.bind_some]
      by_cases hl : (z.Params.length : Int) = (l.length : Int)
      · rw [if_pos (fits_pre hp hz hl), decide_eq_true hl]
        cases eqF o f l with
        | false => rfl
        | true =>
          cases h3 : decide (to < 0) with
          | true => rfl
          | false =>
            obtain ⟨x, hx⟩ := fits_to h3 hp.2.2.1
            rw [hx]
            rfl
      · rw [decide_eq_false hl]; rfl
theorem sFits18_ok : SpecOk Try.prog 18 sFits := by
  refine fn_ok X_ok mixed E0_ok an18 (lpL [(0, lc18)]) Try.func18 (by kernel_rfl) (by kernel_rfl) lp18_ok fun objs args x hx hp => ?_
  obtain ⟨o, f, l, to⟩ := x
  obtain ⟨rfl, rfl⟩ := dFit_ok hx
  dsimp only at hp ⊢
  refine (e18 o f l to).trans ?_
  unfold fitsP
  cases h1 : decide (f < 0) with
  | true => rfl
  | false =>
    cases h2 : decide ((o.Fs.length : Int) ≤ f) with
    | true => rfl
    | false =>
      obtain ⟨z, hz⟩ := fits_get h1 h2
      rw [hz]
      simp only [cond_false, Option.bind_some]
      by_cases hl : (z.Params.length : Int) = (l.length : Int)
      · rw [if_pos (fits_pre hp hz hl), decide_eq_true hl, decide_eq_true hl.symm]
        cases eqF o f l with
        | false => rfl
        | true =>
          cases h3 : decide (to < 0) with
          | true => rfl
          | false =>
            obtain ⟨x, hx⟩ := fits_to h3 hp.2.2.1
            rw [hx]
            rfl
      · rw [decide_eq_false hl, decide_eq_false (fun h => hl h.symm)]; rfl
noncomputable def Fe : FuncId → Option (Spc U)
  | 10 => some sGiven
  | 11 => some sAwake
  | 17 => some sFits
  | 18 => some sFits
  | _ => none
theorem Fe_ok : ∀ f S, Fe f = some S → SpecOk Try.prog f S := fun f S h => by
  unfold Fe at h
  split at h
  · cases h; exact sGiven_ok
  · cases h; exact sAwake_ok
  · cases h; exact sFits17_ok
  · cases h; exact sFits18_ok
  · cases h
def an4 : Ann := ⟨fun | 0 => 1670 | 2 => 2690 | 4 => 6786 | _ => 0, fun | 0 => 706 | 2 => 706 | 4 => 2754 | _ => 0, fun | 9 => [9] | _ => [], false⟩
def S4a (o : IRs) (f : Int) (a l : List Int) (i : Int) : TS U := mkS 95 [(1, .v (.int .i64 f)), (2, .lst .i64 a), (7, .ref 0 0 0), (9, .full 1), (10, .v (.int .i64 i))] [irOb o, .row .i64 l false] 0
def E4a (o : IRs) (f : Int) (l : List Int) : Exit × TS U := (.exit 0, mkS 95 [(1, .v (.int .i64 f)), (7, .ref 0 0 0), (9, .full 1)] [irOb o, .row .i64 l false] 0)
def md (n z : Int) : Int := (IntKind.i64.wrap (Int.tmod z n + n)).tmod n
theorem r4a (lp : Lp U) (N : Nat) (o : IRs) (f : Int) (a l : List Int) (i : Int) : fnLoop X Fe an4 lp Try.f4 0 (N + 1) (S4a o f a l i) = cond (decide (i < (a.length : Int))) (cond (decide (i < 4)) ((getI a i).bind fun z => if (o.V.length : Int) = 0 then none else (if (o.V.length : Int) = 0 then none else (if (l.length + 1) * 8 ≤ 140737488355328 then fnLoop X Fe an4 lp Try.f4 0 N (S4a o f a (l ++ [md o.V.length z]) (IntKind.i64.wrap (i + 1))) else none))) (some (E4a o f l))) (some (E4a o f l)) := by kernel_rfl
theorem md_in {n z : Int} (h0 : 0 < n) (h1 : n ≤ 60) : 0 ≤ md n z ∧ md n z < n := by
  have a1 : Int.tmod z n < n := Int.tmod_lt_of_pos z h0
  have a2 : -n < Int.tmod z n := Int.lt_tmod_of_pos z h0
  have hw : IntKind.i64.wrap (Int.tmod z n + n) = Int.tmod z n + n := wrap_i64 (by omega) (by omega)
  unfold md
  rw [hw]
  exact ⟨Int.tmod_nonneg n (by omega), Int.tmod_lt_of_pos _ h0⟩
def S4b (o : IRs) (f : Int) (l : List Int) (k : Int) : TS U := mkS 95 [(1, .v (.int .i64 f)), (7, .ref 0 0 0), (9, .lst .i64 l), (11, .v (.int .i64 k))] [irOb o] 0
def S4c (o : IRs) (f : Int) (l : List Int) (k to : Int) : TS U := mkS 95 [(1, .v (.int .i64 f)), (7, .ref 0 0 0), (9, .lst .i64 l), (11, .v (.int .i64 k)), (12, .v (.int .i64 to))] [irOb o] 0
theorem r4c (lp : Lp
  U) (N : Nat) (o : IRs) (f : Int) (l : List
  Int) (k : Int) (to : Int) : (fnLoop X Fe an4 lp Try.f4 4 N.succ (S4c o f l k to)) =
  bif decide (to < (↑o.V.length : Int)) then
  if PreF o l to then
    if PreF o l to then
      bif !fitsP o k l to == fitsP o k l to then
        some
          (Exit.ret,
            mkS 95
              [(1, TV.v (Value.int IntKind.i64 f)), (6, TV.v (Value.bool false)), (7, TV.ref 0 0 0),
                (9, TV.lst C.i64 l), (11, TV.v (Value.int IntKind.i64 k))]
              [irOb o] 0)
      else fnLoop X Fe an4 lp Try.f4 4 N (S4c o f l k (IntKind.i64.wrap (to + 1)))
    else none
  else none
else some (Exit.exit 4, S4b o f l k) := by kernel_rfl
def PreV (o : IRs) (l : List Int) : Prop := RngF o ∧ InV o l ∧ l.length ≤ 3000000 ∧ o.V.length ≤ 3000000 ∧ o.Fs.length ≤ 3000000
noncomputable instance (o : IRs) (l : List Int) : Decidable (PreV o l) := Classical.propDecidable _
theorem PreV.f {o : IRs} {l : List Int} (h : PreV o l) {to : Int} (ht : to < (o.V.length : Int)) : PreF o l to := ⟨h.1, h.2.1, ht, h.2.2.1⟩
theorem beq_self' (b : Bool) : (b == b) = true := by cases b <;> rfl
theorem rounds4c (lp : Lp U) {o : IRs} {l : List Int} (h : PreV o l) (f k : Int) : ∀ (N : Nat) (to : Int), -1 ≤ to → (o.V.length : Int) ≤ to + N → fnLoop X Fe an4 lp Try.f4 4 (N + 1) (S4c o f l k to) = some (.exit 4, S4b o f l k) := by
  intro N
  induction N with
  | zero => intro to h0 h1; rw [r4c, decide_eq_false (by omega)]; rfl
  | succ N ih =>
    intro to h0 h1
    rw [r4c]
    by_cases ht : to < (o.V.length : Int)
    · have hw : IntKind.i64.wrap (to + 1) = to + 1 := wrap_i64 (by omega) (by have := h.2.2.2.1; omega)
      rw [decide_eq_true ht, cond_true, if_pos (h.f ht), if_pos (h.f ht), beq_self', hw]
      exact ih _ (by omega) (by omega)
    · rw [decide_eq_false ht]; rfl
def dl4c (s : TS U) : Option (IRs × Int × List Int × Int × Int) := match told s 95 [1, 7, 9, 11, 12] 0, s.objs with
  | some [a0, a1, a2, a3, a4], [o0] =>
    match o0 with
    | .cells [q0, q1, q2, q3, q4, q5] false =>
      match q0 with
      | .lst .i64 o_G =>
        match q1 with
        | .lst .i64 o_F =>
          match q2 with
          | .lst .i64 o_V =>
            match q3 with
            | .lst .t69 o_Fs =>
              match q4 with
              | .lst .t65 o_C =>
                match q5 with
                | .v (.int .i64 o_Main) =>
                  match a0 with
                  | .v (.int .i64 f) =>
                    match a1 with
                    | .ref 0 0 0 =>
                      match a2 with
                      | .lst .i64 l =>
                        match a3 with
                        | .v (.int .i64 k) =>
                          match a4 with
                          | .v (.int .i64 to) =>
                            some ((⟨o_G, o_F, o_V, o_Fs, o_C, o_Main⟩ : IRs), f, l, k, to)
                          | _ => none
                        | _ => none
                      | _ => none
                    | _ => none
                  | _ => none
                | _ => none
              | _ => none
            | _ => none
          | _ => none
        | _ => none
      | _ => none
    | _ => none
  | _, _ => none
theorem dl4c_ok {s : TS U} {o : IRs} {f : Int} {l : List Int} {k : Int} {to : Int} (h : dl4c s = some (o, f, l, k, to)) : s = mkS (U := U) 95 ([1, 7, 9, 11, 12].zip ([.v (.int .i64 f), .ref 0 0 0, .lst .i64 l, .v (.int .i64 k), .v (.int .i64 to)] : List (TV U))) ([o.ob] : List (TO U)) 0 := by
  unfold dl4c at h
  split at h <;> try (cases h; done)
  rename_i ht ho
  have hs := told_ok ht
  rw [ho] at hs
  repeat' split at h
  all_goals first | (cases h; done) | (cases h; exact hs)
def Pre4c (o : IRs) (l : List Int) (to : Int) : Prop := PreV o l ∧ to = -1
noncomputable instance (o : IRs) (l : List Int) (to : Int) : Decidable (Pre4c o l to) := Classical.propDecidable _
noncomputable def lc4c : LC U := .of dl4c (fun (o, f, l, k, to) => Pre4c o l to) (.exit 4) (fun (o, f, l, k, to) => S4b o f l k)
noncomputable def lp4c : Lp U := lpL [(4, lc4c)]
theorem r4b (N : Nat) (o : IRs) (f : Int) (l : List
  Int) (k : Int) : (fnLoop X Fe an4 lp4c Try.f4 2 N.succ (S4b o f l k)) =
  bif decide (k < (↑o.Fs.length : Int)) then
  if Pre4c o l (-1) then fnLoop X Fe an4 lp4c Try.f4 2 N (S4b o f l (IntKind.i64.wrap (k + 1))) else none
else
  some
    (Exit.exit 2,
      mkS 95 [(1, TV.v (Value.int IntKind.i64 f)), (7, TV.ref 0 0 0), (9, TV.lst C.i64 l)] [irOb o] 0) := by kernel_rfl
end Go.Proofs.Ytgdnomnealjdlaa.Fl

/- What may be called: the law, proved. -/
namespace Go.Proofs.Ytgdnomnealjdlaa.Fl
open Go Go.RowKit Go.Proofs.Ytgdnomnealjdlaa.Eng
set_option linter.unusedVariables false
set_option linter.unusedSimpArgs false
set_option maxRecDepth 20000
def gl4 (o : IRs) (l : List Int) (z : Int) : List Int := l ++ [md o.V.length z]
def l4 (o : IRs) (a : List Int) : List Int := (a.take 4).map (md o.V.length)
theorem fold4 (o : IRs) : ∀ (a l : List Int), a.foldl (gl4 o) l = l ++ a.map (md o.V.length)
  | [], l => by simp
  | z :: a, l => by rw [List.foldl_cons, fold4 o a]; simp [gl4]
theorem getI_take {a : List Int} {v z : Int} (h : getI (a.take 4) v = some z) : getI a v = some z ∧ v < 4 ∧ v < a.length := by
  unfold getI at h ⊢
  split at h
  · rename_i h0
    have hlt := (List.getElem?_eq_some_iff.1 h).1
    rw [List.length_take] at hlt
    rw [List.getElem?_take] at h
    split at h
    · exact ⟨by rw [if_pos h0]; exact h, by omega, by omega⟩
    · cases h
  · cases h
theorem rounds4a (lp : Lp U) (o : IRs) (ho : (o.V.length : Int) ≠ 0) (f : Int) (a : List Int) : fnLoop X Fe an4 lp Try.f4 0 ((a.take 4).length + 1) (S4a o f a [] 0) = some (E4a o f (l4 o a)) := by
  have hlen : (a.take 4).length ≤ 4 := by rw [List.length_take]; omega
  have hlen2 : (a.take 4).length = min 4 a.length := List.length_take
  have h := ixL_rounds (fnl := fun n st => fnLoop X Fe an4 lp Try.f4 0 n st) (fun l i => S4a o f a l i) (E4a o f) (len := (a.take 4).length) (step := stepI (a.take 4) (gl4 o)) (fun l i => (l.length : Int) = i) (fun l i N hl h0 h1 => by
    obtain ⟨z, hz, _⟩ := getI_lt (l := a.take 4) h0 h1
    obtain ⟨hz2, hi4, hia⟩ := getI_take hz
    have hw : IntKind.i64.wrap (i + 1) = i + 1 := wrap_i64 (by omega) (by omega)
    have hb : (l.length + 1) * 8 ≤ 140737488355328 := by omega
    have hst : stepI (a.take 4) (gl4 o) l i = l ++ [md o.V.length z] := by unfold stepI; rw [hz]; rfl
    rw [hst]
    refine ⟨?_, by rw [List.length_append]; simp only [List.length_singleton]; omega⟩
    dsimp only
    rw [r4a, decide_eq_true hia, decide_eq_true hi4, hz2, hw, cond_true, cond_true, Option.bind_some, if_neg ho, if_neg ho, if_pos hb]) (fun l i N _ h0 h1 => by
    dsimp only
    rw [r4a]
    by_cases hia : i < (a.length : Int)
    · rw [decide_eq_true hia, decide_eq_false (by omega)]; rfl
    · rw [decide_eq_false hia]; rfl) (a.take 4).length [] 0 (Int.le_refl 0) (by omega) rfl
  rw [ixL_all, fold4, List.nil_append] at h
  exact h
def dl4a (s : TS U) : Option (IRs × List Int × Int × List Int × Int) := match told s 95 [1, 2, 7, 9, 10] 0, s.objs with
  | some [a0, a1, a2, a3, a4], [o0, o1] =>
    match o0 with
    | .cells [q0, q1, q2, q3, q4, q5] false =>
      match q0 with
      | .lst .i64 o_G =>
        match q1 with
        | .lst .i64 o_F =>
          match q2 with
          | .lst .i64 o_V =>
            match q3 with
            | .lst .t69 o_Fs =>
              match q4 with
              | .lst .t65 o_C =>
                match q5 with
                | .v (.int .i64 o_Main) =>
                  match o1 with
                  | .row .i64 l false =>
                    match a0 with
                    | .v (.int .i64 f) =>
                      match a1 with
                      | .lst .i64 a =>
                        match a2 with
                        | .ref 0 0 0 =>
                          match a3 with
                          | .full 1 =>
                            match a4 with
                            | .v (.int .i64 i) =>
                              some ((⟨o_G, o_F, o_V, o_Fs, o_C, o_Main⟩ : IRs), l, f, a, i)
                            | _ => none
                          | _ => none
                        | _ => none
                      | _ => none
                    | _ => none
                  | _ => none
                | _ => none
              | _ => none
            | _ => none
          | _ => none
        | _ => none
      | _ => none
    | _ => none
  | _, _ => none
theorem dl4a_ok {s : TS U} {o : IRs} {l : List Int} {f : Int} {a : List Int} {i : Int} (h : dl4a s = some (o, l, f, a, i)) : s = mkS (U := U) 95 ([1, 2, 7, 9, 10].zip ([.v (.int .i64 f), .lst .i64 a, .ref 0 0 0, .full 1, .v (.int .i64 i)] : List (TV U))) ([o.ob, .row .i64 l false] : List (TO U)) 0 := by
  unfold dl4a at h
  split at h <;> try (cases h; done)
  rename_i ht ho
  have hs := told_ok ht
  rw [ho] at hs
  repeat' split at h
  all_goals first | (cases h; done) | (cases h; exact hs)
def dl4b (s : TS U) : Option (IRs × Int × List Int × Int) := match told s 95 [1, 7, 9, 11] 0, s.objs with
  | some [a0, a1, a2, a3], [o0] =>
    match o0 with
    | .cells [q0, q1, q2, q3, q4, q5] false =>
      match q0 with
      | .lst .i64 o_G =>
        match q1 with
        | .lst .i64 o_F =>
          match q2 with
          | .lst .i64 o_V =>
            match q3 with
            | .lst .t69 o_Fs =>
              match q4 with
              | .lst .t65 o_C =>
                match q5 with
                | .v (.int .i64 o_Main) =>
                  match a0 with
                  | .v (.int .i64 f) =>
                    match a1 with
                    | .ref 0 0 0 =>
                      match a2 with
                      | .lst .i64 l =>
                        match a3 with
                        | .v (.int .i64 k) =>
                          some ((⟨o_G, o_F, o_V, o_Fs, o_C, o_Main⟩ : IRs), f, l, k)
                        | _ => none
                      | _ => none
                    | _ => none
                  | _ => none
                | _ => none
              | _ => none
            | _ => none
          | _ => none
        | _ => none
      | _ => none
    | _ => none
  | _, _ => none
theorem dl4b_ok {s : TS U} {o : IRs} {f : Int} {l : List Int} {k : Int} (h : dl4b s = some (o, f, l, k)) : s = mkS (U := U) 95 ([1, 7, 9, 11].zip ([.v (.int .i64 f), .ref 0 0 0, .lst .i64 l, .v (.int .i64 k)] : List (TV U))) ([o.ob] : List (TO U)) 0 := by
  unfold dl4b at h
  split at h <;> try (cases h; done)
  rename_i ht ho
  have hs := told_ok ht
  rw [ho] at hs
  repeat' split at h
  all_goals first | (cases h; done) | (cases h; exact hs)
def Pre4a (n m : Nat) (i : Int) : Prop := (n : Int) ≠ 0 ∧ m = 0 ∧ i = 0
instance (n m : Nat) (i : Int) : Decidable (Pre4a n m i) := by unfold Pre4a; infer_instance
def Pre4b (o : IRs) (l : List Int) (k : Int) : Prop := PreV o l ∧ k = 0
noncomputable instance (o : IRs) (l : List Int) (k : Int) : Decidable (Pre4b o l k) := Classical.propDecidable _
def E4b (o : IRs) (f : Int) (l : List Int) : Exit × TS U := (.exit 2, mkS 95 [(1, .v (.int .i64 f)), (7, .ref 0 0 0), (9, .lst .i64 l)] [irOb o] 0)
noncomputable def lc4a : LC U := .of dl4a (fun (o, l, f, a, i) => Pre4a o.V.length l.length i) (.exit 0) (fun (o, l, f, a, i) => (E4a o f (l4 o a)).2)
noncomputable def lc4b : LC U := .of dl4b (fun (o, f, l, k) => Pre4b o l k) (.exit 2) (fun (o, f, l, k) => (E4b o f l).2)
noncomputable def lp4 : Lp U := lpL [(0, lc4a), (2, lc4b), (4, lc4c)]
theorem r4b' (N : Nat) (o : IRs) (f : Int) (l : List Int) (k : Int) : fnLoop X Fe an4 lp4 Try.f4 2 (N + 1) (S4b o f l k) = cond (decide (k < (o.Fs.length : Int))) (if Pre4c o l (-1) then fnLoop X Fe an4 lp4 Try.f4 2 N (S4b o f l (IntKind.i64.wrap (k + 1))) else none) (some (E4b o f l)) := by kernel_rfl
theorem rounds4b {o : IRs} {l : List Int} (h : PreV o l) (f : Int) : fnLoop X Fe an4 lp4 Try.f4 2 (o.Fs.length + 1) (S4b o f l 0) = some (E4b o f l) :=
  ixL_rounds (σ := Unit) (fnl := fun n st => fnLoop X Fe an4 lp4 Try.f4 2 n st) (fun _ k => S4b o f l k) (fun _ => E4b o f l) (len := o.Fs.length) (step := fun c _ => c) (fun _ _ => True) (fun c k N _ h0 h1 => by
    have hw : IntKind.i64.wrap (k + 1) = k + 1 := wrap_i64 (by omega) (by have := h.2.2.2.2; omega)
    refine ⟨?_, trivial⟩
    dsimp only
    rw [r4b', decide_eq_true h1, hw, cond_true, if_pos ⟨h, rfl⟩]) (fun c k N _ h0 h1 => by dsimp only; rw [r4b', decide_eq_false h1]; rfl) o.Fs.length () 0 (Int.le_refl 0) (by omega) trivial
theorem lp4_ok : ∀ c, Try.f4.body = some c → LpOk X Fe an4 lp4 (loops c 0) := lpL_ok (by kernel_rfl) fun b L hm st p hs => by
  cases hm with
  | head =>
    obtain ⟨⟨o, l, f, a, i⟩, hx, ⟨h1, h2, rfl⟩, rfl⟩ := LC.of_some hs
    obtain rfl := List.length_eq_zero_iff.1 h2
    obtain rfl := dl4a_ok hx
    exact ⟨_, rounds4a _ o h1 f a⟩
  | tail _ hm => cases hm with
    | head =>
      obtain ⟨⟨o, f, l, k⟩, hx, ⟨h1, rfl⟩, rfl⟩ := LC.of_some hs
      obtain rfl := dl4b_ok hx
      exact ⟨_, rounds4b h1 f⟩
    | tail _ hm => cases hm with
      | head =>
        obtain ⟨⟨o, f, l, k, to⟩, hx, ⟨h1, rfl⟩, rfl⟩ := LC.of_some hs
        obtain rfl := dl4c_ok hx
        exact ⟨_, rounds4c _ h1 f k (o.V.length + 1) (-1) (Int.le_refl _) (by omega)⟩
      | tail _ hm => cases hm
theorem e4 (s : ByteArray) (f : Int) (a : List
  Int) : (evFn X Fe an4 lp4 Try.f4 [] [TV.v (Value.string s), TV.v (Value.int IntKind.i64 f), TV.lst C.i64 a]
  fun (o : List (TO X.U)) (v : TV X.U) => some (o, v)) =
  if True then
  bif !(given s).snd then some ([], TV.v (Value.bool true))
  else
    bif decide ((↑(given s).fst.V.length : Int) = 0) then some ([], TV.v (Value.bool true))
    else
      if Pre4a (given s).fst.V.length 0 0 then
        if Pre4b (given s).fst (l4 (given s).fst a) 0 then
          if PreF (given s).fst (l4 (given s).fst a) (-1) then
            if PreF (given s).fst (l4 (given s).fst a) (-1) then
              some
                ([],
                  TV.v
                    (Value.bool
                      (fitsP (given s).fst f (l4 (given s).fst a) (-1) ==
                        fitsP (given s).fst f (l4 (given s).fst a) (-1))))
            else none
          else none
        else none
      else none
else none := by kernel_rfl
/-! ### The numbers of arguments -/
theorem parI_in {t : TR} {o : IRs} {z : R90} (h : o.V.length + z.Params.length ≤ 100000000) : ∀ p ∈ parI o z, 0 ≤ p ∧ p < (o.V.length + z.Params.length : Int) := by
  unfold parI
  refine ixL_inv (I := fun ps => ∀ p ∈ ps, 0 ≤ p ∧ p < (o.V.length + z.Params.length : Int)) (fun ps i hp h0 h1 => ?_) _ _ _ (Int.le_refl 0) (fun p h => by cases h)
  have hw : IntKind.i64.wrap ((o.V.length : Int) + i) = o.V.length + i := wrap_i64 (by omega) (by omega)
  intro p hm
  unfold st6 at hm
  rw [hw] at hm
  rcases List.mem_append.1 hm with hm | hm
  · exact hp p hm
  · obtain rfl := List.mem_singleton.1 hm
    omega
theorem lwF_R {t : TR} {o : IRs} {v : Int} {z : R90} (h : o.V.length + z.Params.length ≤ 100000000) (ho : RngF o) : RngF (lwF t o v z) := by
  intro x hx p hp
  have hv : (lwF t o v z).V.length = o.V.length + (z.Params.length + z.Vars.length) := by unfold lwF; simp
  rcases List.mem_append.1 hx with hx | hx
  · have := ho x hx p hp
    omega
  · obtain rfl := List.mem_singleton.1 hx
    have := parI_in (t := t) h p hp
    omega
theorem lwL_R {t : TR} (ht : TrOk t) : ∀ (r : List R90) (o : IRs) (v : Int), 0 ≤ v → t.N.drop v.toNat = r → IrB t o r → RngF o → RngF (lwL t r o v)
  | [], o, v, h0, hr, ho, hR => hR
  | z :: r, o, v, h0, hr, ho, hR => by
    have hlen : v < (t.N.length : Int) := by
      have := congrArg List.length hr
      rw [List.length_drop, List.length_cons] at this
      omega
    have hx : t.N[v.toNat]? = some t.N[v.toNat] := List.getElem?_eq_getElem (by omega)
    have hd : t.N.drop v.toNat = t.N[v.toNat] :: t.N.drop (v.toNat + 1) := List.drop_eq_getElem_cons (by omega)
    rw [hd] at hr
    injection hr with hz hr
    have hg : getI t.N v = some z := by unfold getI; rw [if_pos h0, hx, hz]
    have hfw : fnW z ≤ 1000000 := by
      have := fnsW_at t.N v.toNat z (by rw [hx, hz])
      have := ht.2.2
      omega
    have hb := (round4 (R := Unit) (K := fun _ _ => none) ht h0 hlen hg ho hfw).2
    have hq := ho.1
    rw [fnsW] at hq
    have hfe : fnW z = 1 + (z.Params.length + (z.Vars.length + cntL z.Body)) := rfl
    rw [lwL]
    exact lwL_R ht r _ (v + 1) (by omega) (by rw [show (v + 1).toNat = v.toNat + 1 by omega]; exact hr) hb (lwF_R (by omega) hR)
theorem lower_R {t : TR} (ht : TrOk t) : RngF (lower t) := by
  have hb : IrB t ⟨t.G.map R82.Type_, t.F.map R82.Type_, [], [], [], 0⟩ t.N := by
    have := ht.2.2
    exact ⟨by show 0 + _ ≤ _; omega, by show 0 + _ ≤ _; omega, by show 0 + _ ≤ _; omega⟩
  exact lwL_R ht t.N _ 0 (Int.le_refl 0) rfl hb (fun z hz => by cases hz)
theorem given_V {s : ByteArray} (h : (given s).2 = true) : (given s).1.V.length ≤ 60 ∧ RngF (given s).1 ∧ (given s).1.Fs.length ≤ 1000000 := by
  have hR := lower_R (parse_ok (cut3_ok s).2)
  have hB := lower_B (parse_ok (cut3_ok s).2)
  unfold given at h ⊢
  revert h
  cases !decide ((parseP (cut3 s)).2.1 = 0) with
  | true => intro h; cases h
  | false =>
    cases !decide ((chk (parseP (cut3 s)).1).Code = 0) with
    | true => intro h; cases h
    | false =>
      intro h
      have h : okG (lower (parseP (cut3 s)).1) = true := h
      unfold okG at h
      simp only [Bool.and_eq_true, decide_eq_true_eq] at h
      exact ⟨by show (lower (parseP (cut3 s)).1).V.length ≤ 60; omega, hR, hB.2.2⟩
theorem l4_in {o : IRs} (h0 : 0 < (o.V.length : Int)) (h1 : o.V.length ≤ 60) (a : List Int) : InV o (l4 o a) ∧ (l4 o a).length ≤ 4 := by
  refine ⟨fun p hp => ?_, by unfold l4; rw [List.length_map, List.length_take]; omega⟩
  unfold l4 at hp
  obtain ⟨z, _, rfl⟩ := List.mem_map.1 hp
  exact md_in h0 (by omega)
def dLaw4 (objs : List (TO U)) (args : List (TV U)) : Option (ByteArray × Int × List Int) := match objs, args with
  | [], [a0, a1, a2] =>
    match a0 with
    | .v (.string s) =>
      match a1 with
      | .v (.int .i64 f) =>
        match a2 with
        | .lst .i64 a =>
          some (s, f, a)
        | _ => none
      | _ => none
    | _ => none
  | _, _ => none
theorem dLaw4_ok {objs : List (TO U)} {args : List (TV U)} {s : ByteArray} {f : Int} {a : List Int} (h : dLaw4 objs args = some (s, f, a)) : objs = [] ∧ args = [.v (.string s), .v (.int .i64 f), .lst .i64 a] := by
  unfold dLaw4 at h
  repeat' split at h
  all_goals first | (cases h; done) | (cases h; exact ⟨rfl, rfl⟩)
def sLaw4 : Spc U := .of dLaw4 (fun _ => True) (fun _ => []) fun _ => .v (.bool true)
theorem sLaw4_ok : SpecOk Try.prog 4 sLaw4 := by
  refine fn_ok X_ok mixed Fe_ok an4 lp4 Try.func4 (by kernel_rfl) (by kernel_rfl) lp4_ok fun objs args x hx hp => ?_
  obtain ⟨s, f, a⟩ := x
  obtain ⟨rfl, rfl⟩ := dLaw4_ok hx
  dsimp only
  refine (e4 s f a).trans ?_
  rw [if_pos trivial]
  cases hg : (given s).2 with
  | false => rfl
  | true =>
    obtain ⟨g1, g2, g3⟩ := given_V hg
    by_cases hV : ((given s).1.V.length : Int) = 0
    · rw [decide_eq_true hV]; rfl
    · obtain ⟨i1, i2⟩ := l4_in (o := (given s).1) (by omega) g1 a
      have hpv : PreV (given s).1 (l4 (given s).1 a) := ⟨g2, i1, by omega, by omega, by omega⟩
      have hpf : PreF (given s).1 (l4 (given s).1 a) (-1) := hpv.f (by omega)
      rw [decide_eq_false hV]
      simp only [Bool.not_true, cond_false]
      rw [if_pos ⟨hV, rfl, rfl⟩, if_pos ⟨hpv, rfl⟩, if_pos hpf, if_pos hpf, beq_self']
end Go.Proofs.Ytgdnomnealjdlaa.Fl

/- What comes behind each instruction: the law. -/
namespace Go.Proofs.Ytgdnomnealjdlaa.Fl
open Go Go.RowKit Go.Proofs.Ytgdnomnealjdlaa.Eng
set_option linter.unusedVariables false
set_option linter.unusedSimpArgs false
set_option maxRecDepth 20000
def Fi : FuncId → Option (Spc U)
  | 10 => some sGiven
  | 11 => some sAwake
  | 12 => some sInts
  | 13 => some sNx
  | 14 => some sNx
  | 15 => some sAgain
  | 16 => some sAgain
  | _ => none
theorem Fi_ok : ∀ f S, Fi f = some S → SpecOk Try.prog f S := fun f S h => by
  unfold Fi at h
  split at h
  · cases h; exact sGiven_ok
  · cases h; exact sAwake_ok
  · cases h; exact sInts_ok
  · cases h; exact sNx13_ok
  · cases h; exact sNx14_ok
  · cases h; exact sAgain_ok
  · cases h; exact sAgain16_ok
  · cases h
def an3 : Ann := ⟨fun | 0 => 162 | _ => 0, fun | 0 => 50 | _ => 0, fun _ => [], false⟩
def S3w (o : IRs) (a v : Int) : TS U := mkS 49 [(1, .v (.int .i64 a)), (5, .ref 0 0 0), (7, .v (.int .i64 v))] [irOb o] 0
def E3w (o : IRs) (a : Int) : Exit × TS U := (.exit 0, mkS 49 [(1, .v (.int .i64 a)), (5, .ref 0 0 0)] [irOb o] 0)
theorem r3w (lp : Lp U) (N : Nat) (o : IRs) (a : Int) (v : Int) : (fnLoop X Fi an3 lp Try.f3 0 N.succ (S3w o a v)) =
  bif decide (v ≤ (↑o.C.length : Int)) then
  if True then
    if True then
      if Sn (nx o v).length then
        bif !eqI (nx o v) (nx o v) then
          some
            (Exit.ret,
              mkS 49 [(1, TV.v (Value.int IntKind.i64 a)), (4, TV.v (Value.bool false)), (5, TV.ref 0 0 0)] [irOb o] 0)
        else
          if Sn o.C.length then
            if Sn o.C.length then
              bif !agP o v == agP o v then
                some
                  (Exit.ret,
                    mkS 49 [(1, TV.v (Value.int IntKind.i64 a)), (4, TV.v (Value.bool false)), (5, TV.ref 0 0 0)]
                      [irOb o] 0)
              else fnLoop X Fi an3 lp Try.f3 0 N (S3w o a (IntKind.i64.wrap (v + 1)))
            else none
          else none
      else none
    else none
  else none
else some (Exit.exit 0, mkS 49 [(1, TV.v (Value.int IntKind.i64 a)), (5, TV.ref 0 0 0)] [irOb o] 0) := by kernel_rfl
theorem rounds3w (lp : Lp U) {o : IRs} (h : o.C.length ≤ 3000000) (a : Int) : ∀ (N : Nat) (v : Int), -1 ≤ v → (o.C.length : Int) + 1 ≤ v + N → fnLoop X Fi an3 lp Try.f3 0 (N + 1) (S3w o a v) = some (E3w o a) := by
  intro N
  induction N with
  | zero => intro v h0 h1; rw [r3w, decide_eq_false (by omega)]; rfl
  | succ N ih =>
    intro v h0 h1
    rw [r3w]
    by_cases ht : v ≤ (o.C.length : Int)
    · have hw : IntKind.i64.wrap (v + 1) = v + 1 := wrap_i64 (by omega) (by omega)
      have hn := nx_len o v
      have s1 : Sn (nx o v).length := by show _ ≤ _; omega
      have s2 : Sn o.C.length := h
      have hq : eqI (nx o v) (nx o v) = true := decide_eq_true rfl
      rw [decide_eq_true ht, cond_true, if_pos trivial, if_pos trivial, if_pos s1, hq, Bool.not_true, cond_false, if_pos s2, if_pos s2, beq_self', Bool.not_true, cond_false, hw]
      exact ih _ (by omega) (by omega)
    · rw [decide_eq_false ht]; rfl
def dl3w (s : TS U) : Option (IRs × Int × Int) := match told s 49 [1, 5, 7] 0, s.objs with
  | some [a0, a1, a2], [o0] =>
    match o0 with
    | .cells [q0, q1, q2, q3, q4, q5] false =>
      match q0 with
      | .lst .i64 o_G =>
        match q1 with
        | .lst .i64 o_F =>
          match q2 with
          | .lst .i64 o_V =>
            match q3 with
            | .lst .t69 o_Fs =>
              match q4 with
              | .lst .t65 o_C =>
                match q5 with
                | .v (.int .i64 o_Main) =>
                  match a0 with
                  | .v (.int .i64 a) =>
                    match a1 with
                    | .ref 0 0 0 =>
                      match a2 with
                      | .v (.int .i64 v) =>
                        some ((⟨o_G, o_F, o_V, o_Fs, o_C, o_Main⟩ : IRs), a, v)
                      | _ => none
                    | _ => none
                  | _ => none
                | _ => none
              | _ => none
            | _ => none
          | _ => none
        | _ => none
      | _ => none
    | _ => none
  | _, _ => none
theorem dl3w_ok {s : TS U} {o : IRs} {a : Int} {v : Int} (h : dl3w s = some (o, a, v)) : s = mkS (U := U) 49 ([1, 5, 7].zip ([.v (.int .i64 a), .ref 0 0 0, .v (.int .i64 v)] : List (TV U))) ([o.ob] : List (TO U)) 0 := by
  unfold dl3w at h
  split at h <;> try (cases h; done)
  rename_i ht ho
  have hs := told_ok ht
  rw [ho] at hs
  repeat' split at h
  all_goals first | (cases h; done) | (cases h; exact hs)
def Pre3w (n : Nat) (v : Int) : Prop := n ≤ 3000000 ∧ v = -1
instance (n : Nat) (v : Int) : Decidable (Pre3w n v) := by unfold Pre3w; infer_instance
def lc3w : LC U := .of dl3w (fun (o, a, v) => Pre3w o.C.length v) (.exit 0) (fun (o, a, v) => (E3w o a).2)
theorem lp3w_ok : ∀ c, Try.f3.body = some c → LpOk X Fi an3 (lpL [(0, lc3w)]) (loops c 0) := lpL_ok (by kernel_rfl) fun b L hm st p hs => by
  cases hm with
  | head =>
    obtain ⟨⟨o, a, v⟩, hx, ⟨h1, rfl⟩, rfl⟩ := LC.of_some hs
    obtain rfl := dl3w_ok hx
    exact ⟨_, rounds3w _ h1 a (o.C.length + 2) (-1) (Int.le_refl _) (by omega)⟩
  | tail _ hm => cases hm
theorem e3w (s : ByteArray) (a : Int) : (evFn X Fi an3 (lpL [(0, lc3w)]) Try.f3 []
  [TV.v (Value.string s), TV.v (Value.int IntKind.i64 a)] fun (o : List (TO X.U)) (v : TV X.U) => some (o, v)) =
  if True then
  bif !(given s).snd then some ([], TV.v (Value.bool true))
  else
    if Pre3w (given s).fst.C.length (-1) then
      if True then some ([], TV.v (Value.bool (decide ((↑(nx (given s).fst a).length : Int) ≤ 2)))) else none
    else none
else none := by kernel_rfl
def dLaw3 (objs : List (TO U)) (args : List (TV U)) : Option (ByteArray × Int) := match objs, args with
  | [], [a0, a1] =>
    match a0 with
    | .v (.string s) =>
      match a1 with
      | .v (.int .i64 a) =>
        some (s, a)
      | _ => none
    | _ => none
  | _, _ => none
theorem dLaw3_ok {objs : List (TO U)} {args : List (TV U)} {s : ByteArray} {a : Int} (h : dLaw3 objs args = some (s, a)) : objs = [] ∧ args = [.v (.string s), .v (.int .i64 a)] := by
  unfold dLaw3 at h
  repeat' split at h
  all_goals first | (cases h; done) | (cases h; exact ⟨rfl, rfl⟩)
def sLaw3 : Spc U := .of dLaw3 (fun _ => True) (fun _ => []) fun _ => .v (.bool true)
theorem sLaw3_ok : SpecOk Try.prog 3 sLaw3 := by
  refine fn_ok X_ok mixed Fi_ok an3 (lpL [(0, lc3w)]) Try.func3 (by kernel_rfl) (by kernel_rfl) lp3w_ok fun objs args x hx hp => ?_
  obtain ⟨s, a⟩ := x
  obtain ⟨rfl, rfl⟩ := dLaw3_ok hx
  dsimp only
  refine (e3w s a).trans ?_
  rw [if_pos trivial]
  cases hg : (given s).2 with
  | false => rfl
  | true =>
    have hC := given_C s
    have hn := nx_len (given s).1 a
    have h1 : Pre3w (given s).1.C.length (-1) := ⟨hC, rfl⟩
    rw [Bool.not_true, cond_false, if_pos h1, if_pos trivial, decide_eq_true (by omega)]
end Go.Proofs.Ytgdnomnealjdlaa.Fl

