/- Texts of this claim, put together: part 11. -/
import Derived.Test.YtmcflglkfgnbbaaDoorMwJ
/- Which numbers are in a set: the law's function. -/
namespace Go.Proofs.YtmcflglkfgnbbaaDoor.Bt
open Go Go.RowKit Go.Proofs.YtmcflglkfgnbbaaDoor.Eng Go.Proofs.YtmcflglkfgnbbaaDoor.Nd
set_option linter.unusedVariables false
set_option linter.unusedSimpArgs false
set_option maxRecDepth 20000
noncomputable def E4h : FuncId → Option (Spc U)
  | 7 => some sSet
  | 9 => some sAwk
  | 10 => some sWith
  | 11 => some sHas
  | 12 => some sMem
  | 13 => some sSm
  | 14 => some sRw
  | _ => none
theorem E4h_ok : ∀ f S, E4h f = some S → SpecOk Tryd.prog f S := fun f S h => by
  unfold E4h at h
  split at h
  · cases h; exact sSet_ok
  · cases h; exact sAwk_ok
  · cases h; exact sWith_ok
  · cases h; exact sHas_ok
  · cases h; exact sMem_ok
  · cases h; exact sSm_ok
  · cases h; exact sRw_ok
  · cases h
theorem e4 (l : List
  Int) (n : Int) : (evFn X E4h an0 lp0 Tryd.f4 [] [TV.lst C.i64 l, TV.v (Value.int IntKind.i64 n)]
  fun (o : List (TO X.U)) (v : TV X.U) => some (o, v)) =
  if True then
  bif (ofP (List.take 100 l)).isEmpty then
    if PWith [] then
      bif (withP [] n).isEmpty then
        bif decide (0 ≤ n) then
          if PHas [] n then
            if Pl (ofR (List.take 100 l)).length then
              bif (bif decide (n < 0) then false else hasP [] n) == memI (ofR (List.take 100 l)) n then
                if PHas [] n then
                  bif (bif decide (n < 0) then false else hasP [] n) == decide (n < 1048576) then
                    if Pl (ofR (List.take 100 l)).length then
                      if PSm [] (rwR (ofR (List.take 100 l)) n) then
                        if PSm [] (ofR (List.take 100 l)) then some ([], TV.v (Value.bool true)) else none
                      else none
                    else none
                  else some ([], TV.v (Value.bool false))
                else none
              else some ([], TV.v (Value.bool false))
            else none
          else none
        else
          if PHas [] n then
            if Pl (ofR (List.take 100 l)).length then
              bif (bif decide (n < 0) then false else hasP [] n) == memI (ofR (List.take 100 l)) n then
                if PHas [] n then
                  bif (bif decide (n < 0) then false else hasP [] n) == false then
                    if Pl (ofR (List.take 100 l)).length then
                      if PSm [] (rwR (ofR (List.take 100 l)) n) then
                        if PSm [] (ofR (List.take 100 l)) then some ([], TV.v (Value.bool true)) else none
                      else none
                    else none
                  else some ([], TV.v (Value.bool false))
                else none
              else some ([], TV.v (Value.bool false))
            else none
          else none
      else
        bif decide (0 ≤ n) then
          if PHas [] n then
            if Pl (ofR (List.take 100 l)).length then
              bif (bif decide (n < 0) then false else hasP [] n) == memI (ofR (List.take 100 l)) n then
                if PHas (cP (withP [] n)) n then
                  bif (bif decide (n < 0) then false else hasP (cP (withP [] n)) n) == decide (n < 1048576) then
                    if Pl (ofR (List.take 100 l)).length then
                      if PSm (cP (withP [] n)) (rwR (ofR (List.take 100 l)) n) then
                        if PSm [] (ofR (List.take 100 l)) then some ([], TV.v (Value.bool true)) else none
                      else none
                    else none
                  else some ([], TV.v (Value.bool false))
                else none
              else some ([], TV.v (Value.bool false))
            else none
          else none
        else
          if PHas [] n then
            if Pl (ofR (List.take 100 l)).length then
              bif (bif decide (n < 0) then false else hasP [] n) == memI (ofR (List.take 100 l)) n then
                if PHas (cP (withP [] n)) n then
                  bif (bif decide (n < 0) then false else hasP (cP (withP [] n)) n) == false then
                    if Pl (ofR (List.take 100 l)).length then
                      if PSm (cP (withP [] n)) (rwR (ofR (List.take 100 l)) n) then
                        if PSm [] (ofR (List.take 100 l)) then some ([], TV.v (Value.bool true)) else none
                      else none
                    else none
                  else some ([], TV.v (Value.bool false))
                else none
              else some ([], TV.v (Value.bool false))
            else none
          else none
    else none
  else
    if PWith ((ofP (List.take 100 l)).headD { At := 0, Bits := 0 } :: (ofP (List.take 100 l)).tail) then
      bif (withP ((ofP (List.take 100 l)).headD { At := 0, Bits := 0 } :: (ofP (List.take 100 l)).tail) n).isEmpty then
        bif decide (0 ≤ n) then
          if PHas (cP (ofP (List.take 100 l))) n then
            if Pl (ofR (List.take 100 l)).length then
              bif
                  (bif decide (n < 0) then false else hasP (cP (ofP (List.take 100 l))) n) ==
                    memI (ofR (List.take 100 l)) n then
                if PHas [] n then
                  bif (bif decide (n < 0) then false else hasP [] n) == decide (n < 1048576) then
                    if Pl (ofR (List.take 100 l)).length then
                      if PSm [] (rwR (ofR (List.take 100 l)) n) then
                        if PSm (cP (ofP (List.take 100 l))) (ofR (List.take 100 l)) then
                          some ([], TV.v (Value.bool true))
                        else none
                      else none
                    else none
                  else some ([], TV.v (Value.bool false))
                else none
              else some ([], TV.v (Value.bool false))
            else none
          else none
        else
          if PHas (cP (ofP (List.take 100 l))) n then
            if Pl (ofR (List.take 100 l)).length then
              bif
                  (bif decide (n < 0) then false else hasP (cP (ofP (List.take 100 l))) n) ==
                    memI (ofR (List.take 100 l)) n then
                if PHas [] n then
                  bif (bif decide (n < 0) then false else hasP [] n) == false then
                    if Pl (ofR (List.take 100 l)).length then
                      if PSm [] (rwR (ofR (List.take 100 l)) n) then
                        if PSm (cP (ofP (List.take 100 l))) (ofR (List.take 100 l)) then
                          some ([], TV.v (Value.bool true))
                        else none
                      else none
                    else none
                  else some ([], TV.v (Value.bool false))
                else none
              else some ([], TV.v (Value.bool false))
            else none
          else none
      else
        bif decide (0 ≤ n) then
          if PHas (cP (ofP (List.take 100 l))) n then
            if Pl (ofR (List.take 100 l)).length then
              bif
                  (bif decide (n < 0) then false else hasP (cP (ofP (List.take 100 l))) n) ==
                    memI (ofR (List.take 100 l)) n then
                if
                    PHas
                      (cP
                        (withP ((ofP (List.take 100 l)).headD { At := 0, Bits := 0 } :: (ofP (List.take 100 l)).tail)
                          n))
                      n then
                  bif
                      (bif decide (n < 0) then false
                        else
                          hasP
                            (cP
                              (withP
                                ((ofP (List.take 100 l)).headD { At := 0, Bits := 0 } :: (ofP (List.take 100 l)).tail)
                                n))
                            n) ==
                        decide (n < 1048576) then
                    if Pl (ofR (List.take 100 l)).length then
                      if
                          PSm
                            (cP
                              (withP
                                ((ofP (List.take 100 l)).headD { At := 0, Bits := 0 } :: (ofP (List.take 100 l)).tail)
                                n))
                            (rwR (ofR (List.take 100 l)) n) then
                        if PSm (cP (ofP (List.take 100 l))) (ofR (List.take 100 l)) then
                          some ([], TV.v (Value.bool true))
                        else none
                      else none
                    else none
                  else some ([], TV.v (Value.bool false))
                else none
              else some ([], TV.v (Value.bool false))
            else none
          else none
        else
          if PHas (cP (ofP (List.take 100 l))) n then
            if Pl (ofR (List.take 100 l)).length then
              bif
                  (bif decide (n < 0) then false else hasP (cP (ofP (List.take 100 l))) n) ==
                    memI (ofR (List.take 100 l)) n then
                if
                    PHas
                      (cP
                        (withP ((ofP (List.take 100 l)).headD { At := 0, Bits := 0 } :: (ofP (List.take 100 l)).tail)
                          n))
                      n then
                  bif
                      (bif decide (n < 0) then false
                        else
                          hasP
                            (cP
                              (withP
                                ((ofP (List.take 100 l)).headD { At := 0, Bits := 0 } :: (ofP (List.take 100 l)).tail)
                                n))
                            n) ==
                        false then
                    if Pl (ofR (List.take 100 l)).length then
                      if
                          PSm
                            (cP
                              (withP
                                ((ofP (List.take 100 l)).headD { At := 0, Bits := 0 } :: (ofP (List.take 100 l)).tail)
                                n))
                            (rwR (ofR (List.take 100 l)) n) then
                        if PSm (cP (ofP (List.take 100 l))) (ofR (List.take 100 l)) then
                          some ([], TV.v (Value.bool true))
                        else none
                      else none
                    else none
                  else some ([], TV.v (Value.bool false))
                else none
              else some ([], TV.v (Value.bool false))
            else none
          else none
    else none
else none := by kernel_rfl
theorem cP_cons (p : R54) (ps : List R54) : cP (p :: ps) = p :: ps := rfl
theorem has_rel {ps : List R54} {l : List Int} (h : RelP ps l) (n : Int) : (cond (decide (n < 0)) false (hasP ps n)) = memI l n := by
  obtain ⟨h1, h2, h3, h4⟩ := h
  unfold memI
  by_cases h0 : n < 0
  · rw [decide_eq_true h0, cond_true]
    exact (decide_eq_false fun hm => by have := (h3 n hm).1; omega).symm
  · rw [decide_eq_false h0, cond_false]
    have := h4 n (by omega)
    cases hh : hasP ps n with
    | true => exact (decide_eq_true (this.2 hh)).symm
    | false => exact (decide_eq_false fun hm => by rw [this.1 hm] at hh; cases hh).symm
theorem mem_rw {ps : List R54} {l : List Int} (h : RelP ps l) (n : Int) : memI (rwR l n) n = (decide (0 ≤ n) && decide (n < 1048576)) := by
  have h3 := h.2.2.1
  unfold rwR
  by_cases h0 : n < 0
  · rw [decide_eq_true h0, Bool.true_or, Bool.true_or, cond_true, decide_eq_false (show ¬ 0 ≤ n by omega), Bool.false_and]
    exact decide_eq_false fun hm => by have := (h3 n hm).1; omega
  · rw [decide_eq_false h0, Bool.false_or, decide_eq_true (show 0 ≤ n by omega), Bool.true_and]
    by_cases h1 : 1048576 ≤ n
    · rw [decide_eq_true h1, Bool.true_or, cond_true, decide_eq_false (show ¬ n < 1048576 by omega)]
      exact decide_eq_false fun hm => by have := (h3 n hm).2; omega
    · rw [decide_eq_false h1, Bool.false_or, decide_eq_true (show n < 1048576 by omega)]
      cases hm : memI l n with
      | true => exact hm
      | false =>
        rw [cond_false]
        exact decide_eq_true ((mem_insR l n n).2 (.inr rfl))
theorem ofR_len (l : List Int) : (ofR l).length ≤ l.length := by
  have key : ∀ (l out : List Int), (l.foldl rwR out).length ≤ out.length + l.length := by
    intro l
    induction l with
    | nil => intro out; exact Nat.le_refl _
    | cons z l ih =>
      intro out
      have := ih (rwR out z)
      have := rwR_len out z
      rw [List.foldl_cons, List.length_cons]
      omega
  have := key l []
  rw [List.length_nil, Nat.zero_add] at this
  exact this
theorem oL4 (l : List Int) (n : Int) (hn : n ≤ 9223372036854775807) : evFn X E4h an0 lp0 Tryd.f4 [] [.lst .i64 l, .v (.int .i64 n)] (fun o v => some (o, v)) = some ([], .v (.bool true)) := by
  have e := e4 l n
  have hr := relP_of (l.take 100)
  have hl : Pl (ofR (l.take 100)).length := by
    have := ofR_len (l.take 100)
    rw [List.length_take] at this
    unfold Pl
    omega
  obtain ⟨S, hS⟩ : ∃ S, ofP (l.take 100) = S := ⟨_, rfl⟩
  obtain ⟨L, hL⟩ : ∃ L, ofR (l.take 100) = L := ⟨_, rfl⟩
  have hh : S.headD ⟨0, 0⟩ :: S.tail = cP S := rfl
  rw [hS, hL, hh] at e
  rw [hS, hL] at hr
  rw [hL] at hl
  have ht := relP_with hr n
  have c1 := has_rel hr n
  have c2 := has_rel ht n
  rw [mem_rw hr n] at c2
  have p1 : PWith S := hr.1
  have p2 : PHas S n := ⟨hr.1, hn⟩
  have p3 : PSm S L := hr
  have eS : cP S = S ∨ S = [] := by
    cases S with
    | nil => exact .inr rfl
    | cons => exact .inl rfl
  refine e.trans ?_
  clear e
  have key : ∀ T, withP S n = T → RelP T (rwR L n) → (cond (decide (n < 0)) false (hasP T n)) = (decide (0 ≤ n) && decide (n < 1048576)) → PHas T n ∧ PSm T (rwR L n) := fun T _ h _ => ⟨⟨h.1, hn⟩, h⟩
  obtain ⟨T, hT⟩ : ∃ T, withP S n = T := ⟨_, rfl⟩
  rw [hT] at ht c2
  obtain ⟨q1, q2⟩ := key T hT ht c2
  by_cases h0 : 0 ≤ n
  · rw [decide_eq_true h0, Bool.true_and] at c2
    cases S with
    | nil => cases T with
      | nil => have c3 := c1.symm.trans c2; simp only [c3, List.isEmpty_nil, cond_true, if_true, p1, p2, p3, q1, q2, hT, hl, decide_eq_true h0, c1, c2, beq_self_eq_true]
      | cons t T => simp only [List.isEmpty_nil, List.isEmpty_cons, cP_cons, cond_true, cond_false, if_true, p1, p2, p3, q1, q2, hT, hl, decide_eq_true h0, c1, c2, beq_self_eq_true]
    | cons s S => cases T with
      | nil => simp only [List.isEmpty_nil, List.isEmpty_cons, cP_cons, cond_true, cond_false, if_true, p1, p2, p3, q1, q2, hT, hl, decide_eq_true h0, c1, c2, beq_self_eq_true]
      | cons t T => simp only [List.isEmpty_nil, List.isEmpty_cons, cP_cons, cond_true, cond_false, if_true, p1, p2, p3, q1, q2, hT, hl, decide_eq_true h0, c1, c2, beq_self_eq_true]
  · rw [decide_eq_false h0, Bool.false_and] at c2
    cases S with
    | nil => cases T with
      | nil => have c3 := c1.symm.trans c2; simp only [c3, List.isEmpty_nil, cond_true, cond_false, if_true, p1, p2, p3, q1, q2, hT, hl, decide_eq_false h0, c1, c2, beq_self_eq_true]
      | cons t T => simp only [List.isEmpty_nil, List.isEmpty_cons, cP_cons, cond_true, cond_false, if_true, p1, p2, p3, q1, q2, hT, hl, decide_eq_false h0, c1, c2, beq_self_eq_true]
    | cons s S => cases T with
      | nil => simp only [List.isEmpty_nil, List.isEmpty_cons, cP_cons, cond_true, cond_false, if_true, p1, p2, p3, q1, q2, hT, hl, decide_eq_false h0, c1, c2, beq_self_eq_true]
      | cons t T => simp only [List.isEmpty_nil, List.isEmpty_cons, cP_cons, cond_true, cond_false, if_true, p1, p2, p3, q1, q2, hT, hl, decide_eq_false h0, c1, c2, beq_self_eq_true]
def dLI (objs : List (TO U)) (args : List (TV U)) : Option (List Int × Int) := match objs, args with
  | [], [a0, a1] =>
    match a0 with
    | .lst .i64 l =>
      match a1 with
      | .v (.int .i64 n) =>
        some (l, n)
      | _ => none
    | _ => none
  | _, _ => none
theorem dLI_ok {objs : List (TO U)} {args : List (TV U)} {l : List Int} {n : Int} (h : dLI objs args = some (l, n)) : objs = [] ∧ args = [.lst .i64 l, .v (.int .i64 n)] := by
  unfold dLI at h
  repeat' split at h
  all_goals first | (cases h; done) | (cases h; exact ⟨rfl, rfl⟩)
def PLw (n : Int) : Prop := n ≤ 9223372036854775807
noncomputable instance (n : Int) : Decidable (PLw n) := Classical.propDecidable _
noncomputable def sLaw4 : Spc U := .of dLI (fun (l, n) => PLw n) (fun _ => []) fun _ => .v (.bool true)
theorem sLaw4_ok : SpecOk Tryd.prog 4 sLaw4 := by
  refine fn_ok X_ok mixed E4h_ok an0 lp0 Tryd.func4 (by kernel_rfl) (by kernel_rfl) (lp0_ok (by kernel_rfl)) fun objs args x hx hp => ?_
  obtain ⟨l, n⟩ := x
  obtain ⟨rfl, rfl⟩ := dLI_ok hx
  exact oL4 l n hp
theorem law4 (l : List Int) (n : Int) (hn : n ≤ 9223372036854775807) : HCall Tryd.prog 4 [] [.lst 1 (l.map encS_i64), .v (.int .i64 n)] [] (.v (.bool true)) :=
  (sLaw4_ok.ok [] [.lst .i64 l, .v (.int .i64 n)] [] (.v (.bool true)) (if_pos (show PLw n from hn)) rfl rfl rfl).1
end Go.Proofs.YtmcflglkfgnbbaaDoor.Bt

