-- Written by a program of this session.
import Derived.Test.YtnejefipkmnioaaQWireUnkeysx0
import Derived.Test.YtnejefipkmnioaaQWireUnkeysx1
namespace Go.Proofs.Ytnejefipkmnioaa.QWireUnkeys
open Go.RowKit Go.Proofs.YtnejefipkmnioaaW.PrintWords Go.Proofs.YtnejefipkmnioaaW.PrintLast Go.Proofs.YtnejefipkmnioaaW.PrintMore
attribute [local go_sem] max2_int min2_int max_two min_two max_three min_three max_four min_four   -- for this text's walks alone
set_option linter.unusedVariables false
set_option linter.unusedSimpArgs false

/-! ### keywaylaw03_WireUnkeys: function 4 -/
def keywaylaw03_WireUnkeys.l0 : Nat → ByteArray → Int → ByteArray → Int → Option (Bool)
  | 0, _, _, _, _ => none
  | k + 1, x3, x4, x5, x7 => if x7 ≤ (x3.size : Int) then (if x7 > 0 then (if x7 ≤ 9 then (if 0 < (x3.size : Int) then (if (wrap64 (bt x3 0)) = (wrap64 (x7 - 1)) then (if x7 = 1 then (some false) else (if 1 < (x3.size : Int) then (if (bt x3 1) = 0 then (keywaylaw03_WireUnkeys.l0 k x3 x4 x5 (wrap64 (x7 + 1))) else (some false)) else (none))) else (keywaylaw03_WireUnkeys.l0 k x3 x4 x5 (wrap64 (x7 + 1)))) else (none)) else (keywaylaw03_WireUnkeys.l0 k x3 x4 x5 (wrap64 (x7 + 1)))) else (keywaylaw03_WireUnkeys.l0 k x3 x4 x5 (wrap64 (x7 + 1)))) else ((keywaylaw03_awake.f k).bind fun t132 => (if t132 = true then (if x4 = 0 then (some (x5.toList == ([] : List UInt8))) else (some false)) else (some false)))
def keywaylaw03_WireUnkeys.f (k : Nat) (a0 : ByteArray) : Option (Bool) := if 0 ≤ (mn (a0.size : Int) 20) then (if (mn (a0.size : Int) 20) ≤ (a0.size : Int) then ((wire_Unkey.f k (a0.extract 0 ((mn (a0.size : Int) 20) : Int).toNat)).bind fun bt127 => (if bt127.2.2 = true then ((keywaylaw03_awake.f k).bind fun t130 => (if t130 = true then ((keywayref03_Key.f k bt127.1).bind fun t131 => (if t131.size + bt127.2.1.size ≤ 9223372036854775807 then (some ((t131 ++ bt127.2.1).toList == (a0.extract 0 ((mn (a0.size : Int) 20) : Int).toNat).toList)) else (none))) else (some false))) else (keywaylaw03_WireUnkeys.l0 k (a0.extract 0 ((mn (a0.size : Int) 20) : Int).toNat) bt127.1 bt127.2.1 0))) else (none)) else (none)
theorem keywaylaw03_WireUnkeys.mono_l : ∀ k, (∀ y0 y1 y2 y3, LeO (keywaylaw03_WireUnkeys.l0 k y0 y1 y2 y3) (keywaylaw03_WireUnkeys.l0 (k + 1) y0 y1 y2 y3))
  | 0 => fun _ _ _ _ r h => by simp [keywaylaw03_WireUnkeys.l0] at h
  | k + 1 => by
    have ih0 := keywaylaw03_WireUnkeys.mono_l k
    · intro y0 y1 y2 y3
      unfold keywaylaw03_WireUnkeys.l0
      repeat' first
      | (with_reducible exact ih0 _ _ _ _)
      | (with_reducible exact keywaylaw03_awake.mono _)
      | (with_reducible exact keywayref03_Key.mono _ _)
      | (with_reducible exact wire_Unkey.mono _ _)
      | (with_reducible exact LeO.refl _)
      | (with_reducible exact LeO.none _)
      | (with_reducible refine LeO.ite ?_ ?_)
      | (with_reducible refine LeO.bind ?_ (fun _ => ?_))
      | exact ih0 _ _ _ _
      | exact keywaylaw03_awake.mono _
      | exact keywayref03_Key.mono _ _
      | exact wire_Unkey.mono _ _
      | exact LeO.none _
      | refine LeO.ite ?_ ?_
      | refine LeO.bind ?_ (fun _ => ?_)
theorem keywaylaw03_WireUnkeys.mono : ∀ a0 k, LeO (keywaylaw03_WireUnkeys.f k a0) (keywaylaw03_WireUnkeys.f (k + 1) a0) := by
  intro a0 k
  have ih0 := keywaylaw03_WireUnkeys.mono_l k
  unfold keywaylaw03_WireUnkeys.f
  repeat' first
      | (with_reducible exact ih0 _ _ _ _)
      | (with_reducible exact keywaylaw03_awake.mono _)
      | (with_reducible exact keywayref03_Key.mono _ _)
      | (with_reducible exact wire_Unkey.mono _ _)
      | (with_reducible exact LeO.refl _)
      | (with_reducible exact LeO.none _)
      | (with_reducible refine LeO.ite ?_ ?_)
      | (with_reducible refine LeO.bind ?_ (fun _ => ?_))
      | exact ih0 _ _ _ _
      | exact keywaylaw03_awake.mono _
      | exact keywayref03_Key.mono _ _
      | exact wire_Unkey.mono _ _
      | exact LeO.none _
      | refine LeO.ite ?_ ?_
      | refine LeO.bind ?_ (fun _ => ?_)
set_option maxHeartbeats 8000000 in
set_option maxRecDepth 100000 in
theorem keywaylaw03_WireUnkeys.calls (k : Nat) (a0 : ByteArray) (r : Bool) (w : World) (h : keywaylaw03_WireUnkeys.f k a0 = some r) :
    Calls Try.prog 4 #[.string a0] w fun e w' => e = .returned (.bool r) ∧ Below w.heap.size w w' := by
  have HB := Aside0.mk (Below.refl w.heap.size w)
  have H : (if 0 ≤ (mn (a0.size : Int) 20) then (if (mn (a0.size : Int) 20) ≤ (a0.size : Int) then ((wire_Unkey.f k (a0.extract 0 ((mn (a0.size : Int) 20) : Int).toNat)).bind fun bt127 => (if bt127.2.2 = true then ((keywaylaw03_awake.f k).bind fun t130 => (if t130 = true then ((keywayref03_Key.f k bt127.1).bind fun t131 => (if t131.size + bt127.2.1.size ≤ 9223372036854775807 then (some ((t131 ++ bt127.2.1).toList == (a0.extract 0 ((mn (a0.size : Int) 20) : Int).toNat).toList)) else (none))) else (some false))) else (keywaylaw03_WireUnkeys.l0 k (a0.extract 0 ((mn (a0.size : Int) 20) : Int).toNat) bt127.1 bt127.2.1 0))) else (none)) else (none)) = some r := h
  clear h
  obtain ⟨ji2, hji2⟩ : ∃ j_ : Int, (mn (a0.size : Int) 20) = j_ := ⟨_, rfl⟩
  replace H : (if 0 ≤ (ji2) then (if (ji2) ≤ (a0.size : Int) then ((wire_Unkey.f k (a0.extract 0 ((ji2) : Int).toNat)).bind fun bt127 => (if bt127.2.2 = true then ((keywaylaw03_awake.f k).bind fun t130 => (if t130 = true then ((keywayref03_Key.f k bt127.1).bind fun t131 => (if t131.size + bt127.2.1.size ≤ 9223372036854775807 then (some ((t131 ++ bt127.2.1).toList == (a0.extract 0 ((ji2) : Int).toNat).toList)) else (none))) else (some false))) else (keywaylaw03_WireUnkeys.l0 k (a0.extract 0 ((ji2) : Int).toNat) bt127.1 bt127.2.1 0))) else (none)) else (none)) = some r := by first | (rw [hji2] at H; exact H) | (simp only [hji2] at H ⊢; exact H)
  (try (have hji2h : ji2 ≤ 20 := by (rw [← hji2]; unfold mn; (repeat' split) <;> omega)))
  (try (have hji2g : ji2 ≤ 64 := by omega))
  (try (have hji2l : 0 ≤ ji2 := by (rw [← hji2]; unfold mn; (repeat' split) <;> omega)))
  (try (have hji2m : 0 ≤ ji2 := by omega))
  have hji2_ : (if 20 < (a0.size : Int) then 20 else (a0.size : Int)) = ji2 := hji2
  by_cases c3 : 0 ≤ (ji2)
  · rw [if_pos c3] at H
    have c3b0 := eq_true c3
    have c3b1 : decide (0 ≤ (ji2)) = true := decide_eq_true c3
    clear c3
    by_cases c4 : (ji2) ≤ (a0.size : Int)
    · rw [if_pos c4] at H
      have c4b0 := eq_true c4
      have c4b1 : decide ((ji2) ≤ (a0.size : Int)) = true := decide_eq_true c4
      clear c4
      obtain ⟨jt5, hjt5⟩ : ∃ j_ : ByteArray, (a0.extract 0 ((ji2) : Int).toNat) = j_ := ⟨_, rfl⟩
      replace H : ((wire_Unkey.f k (jt5)).bind fun bt127 => (if bt127.2.2 = true then ((keywaylaw03_awake.f k).bind fun t130 => (if t130 = true then ((keywayref03_Key.f k bt127.1).bind fun t131 => (if t131.size + bt127.2.1.size ≤ 9223372036854775807 then (some ((t131 ++ bt127.2.1).toList == (jt5).toList)) else (none))) else (some false))) else (keywaylaw03_WireUnkeys.l0 k jt5 bt127.1 bt127.2.1 0))) = some r := by first | (rw [hjt5] at H; exact H) | (simp only [hjt5] at H ⊢; exact H)
      replace H := Option.bind_eq_some_iff.mp H
      obtain ⟨⟨t127, t128, t129⟩, A60, H⟩ := H
      replace H : (if t129 = true then ((keywaylaw03_awake.f k).bind fun t130 => (if t130 = true then ((keywayref03_Key.f k t127).bind fun t131 => (if t131.size + t128.size ≤ 9223372036854775807 then (some ((t131 ++ t128).toList == (jt5).toList)) else (none))) else (some false))) else (keywaylaw03_WireUnkeys.l0 k jt5 t127 t128 0)) = some r := H
      have A6 := Aside0.mk A60
      clear A60
      by_cases c7 : t129 = true
      · subst c7
        have H1 : ((keywaylaw03_awake.f k).bind fun t130 => (if t130 = true then ((keywayref03_Key.f k t127).bind fun t131 => (if t131.size + t128.size ≤ 9223372036854775807 then (some ((t131 ++ t128).toList == (jt5).toList)) else (none))) else (some false))) = some r := by rw [if_pos rfl] at H; exact H
        clear H
        have H := H1
        clear H1
        replace H := Option.bind_eq_some_iff.mp H
        obtain ⟨t130, A80, H⟩ := H
        replace H : (if t130 = true then ((keywayref03_Key.f k t127).bind fun t131 => (if t131.size + t128.size ≤ 9223372036854775807 then (some ((t131 ++ t128).toList == (jt5).toList)) else (none))) else (some false)) = some r := H
        have A8 := Aside0.mk A80
        clear A80
        by_cases c9 : t130 = true
        · subst c9
          have H1 : ((keywayref03_Key.f k t127).bind fun t131 => (if t131.size + t128.size ≤ 9223372036854775807 then (some ((t131 ++ t128).toList == (jt5).toList)) else (none))) = some r := by rw [if_pos rfl] at H; exact H
          clear H
          have H := H1
          clear H1
          replace H := Option.bind_eq_some_iff.mp H
          obtain ⟨t131, A100, H⟩ := H
          replace H : (if t131.size + t128.size ≤ 9223372036854775807 then (some ((t131 ++ t128).toList == (jt5).toList)) else (none)) = some r := H
          have A10 := Aside0.mk A100
          clear A100
          by_cases c11 : t131.size + t128.size ≤ 9223372036854775807
          · rw [if_pos c11] at H
            have c11b0 := eq_true c11
            have c11b1 : decide (t131.size + t128.size ≤ 9223372036854775807) = true := decide_eq_true c11
            try have c11b2 : (9223372036854775807 < t131.size + t128.size) = False := eq_false (Nat.not_lt.2 c11)
            obtain rfl := Option.some.inj H
            go_enter Try.func4, Try.ntmps4
            go_wp2_with (first | ((with_reducible refine gate_callee (f := 11) rfl ?_); refine goesL_ (some 15) rfl rfl Try.func11 (by kernel_rfl) rfl #[.string jt5] rfl (by (try simp only [List.map_toArray, List.map_cons, List.map_nil]); first | done | rfl | (simp only [List.length_drop, List.length_take]; rfl)) ?_; (with_reducible refine (wire_Unkey.calls k jt5 t127 t128 true _ A6.out).mono ?_); rintro e w' ⟨rfl, ⟨nd, rfl⟩⟩; refine ⟨_, rfl, ?_⟩) | ((with_reducible refine gate_callee (f := 12) rfl ?_); refine goesL_ (some 59) rfl rfl Try.func12 (by kernel_rfl) rfl #[] rfl (by (try simp only [List.map_toArray, List.map_cons, List.map_nil]); first | done | rfl | (simp only [List.length_drop, List.length_take]; rfl)) ?_; (with_reducible refine (keywaylaw03_awake.calls k  true _ A8.out).mono ?_); rintro e w12 ⟨rfl, hb⟩; refine ⟨_, rfl, ?_⟩; have n0_ := Aside0.mk (below_step (by repeat (first | (with_reducible first | exact HB.out | apply below_alloc | apply pw_below_drewN | apply below_drew1) | exact HB.out)) hb); clear HB; have HB := n0_; clear n0_; (try clear hb); (try clear hb2); (try clear hk); (try clear hi)) | (go_at_call 13; (with_reducible refine (keywayref03_Key.calls k t127 t131 _ A10.out).mono ?_); rintro e w13 ⟨rfl, hb⟩; have n0_ := Aside0.mk (below_step (by repeat (first | (with_reducible first | exact HB.out | apply below_alloc | apply pw_below_drewN | apply below_drew1) | exact HB.out)) hb); clear HB; have HB := n0_; clear n0_; (try clear hb); (try clear hb2); (try clear hk); (try clear hi)))
            go_ret
            exact ⟨by first | rfl | (simp [errW_none, errW_some] <;> rfl) | (simp only [← hji2, ← hjt5]; first | rfl | (simp [errW_none, errW_some] <;> rfl)) | (simp [*, errW_none, errW_some] <;> rfl), by repeat (first | (with_reducible first | exact HB.out | apply below_alloc | apply pw_below_drewN | apply below_drew1) | exact HB.out)⟩
          · rw [if_neg c11] at H
            exact absurd H (by simp)
        · replace c9 := Bool.eq_false_iff.mpr c9
          subst c9
          have H1 : (some false) = some r := by rw [if_neg (show ¬ (false = true) by decide)] at H; exact H
          clear H
          have H := H1
          clear H1
          obtain rfl := Option.some.inj H
          go_enter Try.func4, Try.ntmps4
          go_wp2_with (first | ((with_reducible refine gate_callee (f := 11) rfl ?_); refine goesL_ (some 15) rfl rfl Try.func11 (by kernel_rfl) rfl #[.string jt5] rfl (by (try simp only [List.map_toArray, List.map_cons, List.map_nil]); first | done | rfl | (simp only [List.length_drop, List.length_take]; rfl)) ?_; (with_reducible refine (wire_Unkey.calls k jt5 t127 t128 true _ A6.out).mono ?_); rintro e w' ⟨rfl, ⟨nd, rfl⟩⟩; refine ⟨_, rfl, ?_⟩) | ((with_reducible refine gate_callee (f := 12) rfl ?_); refine goesL_ (some 59) rfl rfl Try.func12 (by kernel_rfl) rfl #[] rfl (by (try simp only [List.map_toArray, List.map_cons, List.map_nil]); first | done | rfl | (simp only [List.length_drop, List.length_take]; rfl)) ?_; (with_reducible refine (keywaylaw03_awake.calls k  false _ A8.out).mono ?_); rintro e w14 ⟨rfl, hb⟩; refine ⟨_, rfl, ?_⟩; have n0_ := Aside0.mk (below_step (by repeat (first | (with_reducible first | exact HB.out | apply below_alloc | apply pw_below_drewN | apply below_drew1) | exact HB.out)) hb); clear HB; have HB := n0_; clear n0_; (try clear hb); (try clear hb2); (try clear hk); (try clear hi)))
          go_ret
          exact ⟨by first | rfl | (simp [errW_none, errW_some] <;> rfl) | (simp only [← hji2, ← hjt5]; first | rfl | (simp [errW_none, errW_some] <;> rfl)) | (simp [*, errW_none, errW_some] <;> rfl), by repeat (first | (with_reducible first | exact HB.out | apply below_alloc | apply pw_below_drewN | apply below_drew1) | exact HB.out)⟩
      · replace c7 := Bool.eq_false_iff.mpr c7
        subst c7
        have H1 : (keywaylaw03_WireUnkeys.l0 k jt5 t127 t128 0) = some r := by rw [if_neg (show ¬ (false = true) by decide)] at H; exact H
        clear H
        have H := H1
        clear H1
        have H' := Aside0.mk H
        clear H
        go_enter Try.func4, Try.ntmps4
        go_wp2_with (first | ((with_reducible refine gate_callee (f := 11) rfl ?_); refine goesL_ (some 15) rfl rfl Try.func11 (by kernel_rfl) rfl #[.string jt5] rfl (by (try simp only [List.map_toArray, List.map_cons, List.map_nil]); first | done | rfl | (simp only [List.length_drop, List.length_take]; rfl)) ?_; (with_reducible refine (wire_Unkey.calls k jt5 t127 t128 false _ A6.out).mono ?_); rintro e w' ⟨rfl, ⟨nd, rfl⟩⟩; refine ⟨_, rfl, ?_⟩))
        go_loopg [7] k (fun kq v7 w' => ∃ (x7_1 : Int), v7 = .int .i64 x7_1 ∧ Aside0 (keywaylaw03_WireUnkeys.l0 kq jt5 t127 t128 x7_1 = some r) ∧ Aside0 (kq ≤ k) ∧ Aside0 (Below w.heap.size w w'))
        case atStart => exact ⟨(0), (by first | rfl | (simp; done) | (simp [*]; done)), H', ⟨Nat.le_refl _⟩, ⟨by repeat (first | (with_reducible first | exact HB.out | apply below_alloc | apply pw_below_drewN | apply below_drew1) | exact HB.out)⟩⟩
        case round =>
          clear H'
          try clear c1
          try clear p2
          try clear c3
          try clear c3b0
          try clear c3b1
          try clear c4
          try clear c4b0
          try clear c4b1
          try clear c7
          try clear c9
          try clear c11
          try clear c11b0
          try clear c11b1
          try clear c11b2
          try clear c12
          obtain ⟨x7_1, rfl, HA, HK1, HB⟩ := hrel
          cases gk with
          | zero => exact absurd HA.out (by simp [keywaylaw03_WireUnkeys.l0])
          | succ k1 =>
            have H := HA.out
            clear HA
            simp only [keywaylaw03_WireUnkeys.l0] at H
            by_cases c15 : x7_1 ≤ (jt5.size : Int)
            · rw [if_pos c15] at H
              have c15b0 : decide (x7_1 ≤ (jt5.size : Int)) = true := decide_eq_true c15
              clear c15
              by_cases c16 : x7_1 > 0
              · rw [if_pos c16] at H
                have c16b0 : decide (0 < x7_1) = true := decide_eq_true c16
                clear c16
                by_cases c17 : x7_1 ≤ 9
                · rw [if_pos c17] at H
                  have c17b0 : decide (x7_1 ≤ 9) = true := decide_eq_true c17
                  clear c17
                  by_cases c18 : 0 < (jt5.size : Int)
                  · rw [if_pos c18] at H
                    have c18b0 : decide (0 < (jt5.size : Int)) = true := decide_eq_true c18
                    have c18b1 : decide (0 < jt5.size) = true := decide_eq_true (by omega)
                    clear c18
                    by_cases c20 : (wrap64 (bt jt5 0)) = (wrap64 (x7_1 - 1))
                    · rw [if_pos c20] at H
                      have c20b0 : ((wrap64 (bt jt5 0)) == (wrap64 (x7_1 - 1))) = true := beq_iff_eq.mpr c20
                      have c20b1 : ((wrap64 (bt jt5 0)) != (wrap64 (x7_1 - 1))) = false := bne_eq_false_iff_eq.mpr c20
                      clear c20
                      by_cases c21 : x7_1 = 1
                      · rw [if_pos c21] at H
                        have c21b0 : (x7_1 == 1) = true := beq_iff_eq.mpr c21
                        have c21b1 : (x7_1 != 1) = false := bne_eq_false_iff_eq.mpr c21
                        clear c21
                        obtain rfl := Option.some.inj H
                        have p19 : 0 ≤ (0 : Int) := (by omega)
                        have q19 : 0 < jt5.size := (by have : (0 : Int) < (jt5.size : Int) := of_decide_eq_true (by first | (with_reducible assumption) | assumption); omega)
                        have hx19 : ∀ h : 0 < jt5.size, ((jt5[0]'h).toNat : Int) = bt jt5 0 := bt_at jt5 0
                        clear p19
                        have qi19 : (0 < (jt5.size : Int)) = True := eq_true (of_decide_eq_true (by first | (with_reducible assumption) | assumption))
                        replace q19 := eq_true q19
                        go_wp2
                        go_ret
                        exact ⟨by first | rfl | (simp [errW_none, errW_some] <;> rfl) | (simp only [← hji2, ← hjt5]; first | rfl | (simp [errW_none, errW_some] <;> rfl)) | (simp [*, errW_none, errW_some] <;> rfl), by repeat (first | (with_reducible first | exact HB.out | apply below_alloc | apply pw_below_drewN | apply below_drew1) | exact HB.out)⟩
                      · rw [if_neg c21] at H
                        have c21b0 : (x7_1 == 1) = false := beq_eq_false_iff_ne.mpr c21
                        have c21b1 : (x7_1 != 1) = true := bne_iff_ne.mpr c21
                        by_cases c22 : 1 < (jt5.size : Int)
                        · rw [if_pos c22] at H
                          have c22b0 : decide (1 < (jt5.size : Int)) = true := decide_eq_true c22
                          have c22b1 : decide (1 < jt5.size) = true := decide_eq_true (by omega)
                          clear c22
                          by_cases c24 : (bt jt5 1) = 0
                          · rw [if_pos c24] at H
                            have c24b0 : ((bt jt5 1) == 0) = true := beq_iff_eq.mpr c24
                            have c24b1 : ((bt jt5 1) != 0) = false := bne_eq_false_iff_eq.mpr c24
                            clear c24
                            have H' := Aside0.mk H
                            clear H
                            have p19 : 0 ≤ (0 : Int) := (by omega)
                            have q19 : 0 < jt5.size := (by have : (0 : Int) < (jt5.size : Int) := of_decide_eq_true (by first | (with_reducible assumption) | assumption); omega)
                            have hx19 : ∀ h : 0 < jt5.size, ((jt5[0]'h).toNat : Int) = bt jt5 0 := bt_at jt5 0
                            clear p19
                            have qi19 : (0 < (jt5.size : Int)) = True := eq_true (of_decide_eq_true (by first | (with_reducible assumption) | assumption))
                            replace q19 := eq_true q19
                            have p23 : 0 ≤ (1 : Int) := (by omega)
                            have q23 : 1 < jt5.size := (by have : (1 : Int) < (jt5.size : Int) := of_decide_eq_true (by first | (with_reducible assumption) | assumption); omega)
                            have hx23 : ∀ h : 1 < jt5.size, ((jt5[1]'h).toNat : Int) = bt jt5 1 := bt_at jt5 1
                            clear p23
                            have qi23 : (1 < (jt5.size : Int)) = True := eq_true (of_decide_eq_true (by first | (with_reducible assumption) | assumption))
                            replace q23 := eq_true q23
                            go_wp2
                            go_roundg k1
                            case measure => have := HK1.out; omega
                            case rel => exact ⟨(wrap64 (x7_1 + 1)), (by first | rfl | (simp; done) | (simp [*]; done)), H', ⟨by have := HK1.out; omega⟩, ⟨by repeat (first | (with_reducible first | exact HB.out | apply below_alloc | apply pw_below_drewN | apply below_drew1) | exact HB.out)⟩⟩
                          · rw [if_neg c24] at H
                            have c24b0 : ((bt jt5 1) == 0) = false := beq_eq_false_iff_ne.mpr c24
                            have c24b1 : ((bt jt5 1) != 0) = true := bne_iff_ne.mpr c24
                            obtain rfl := Option.some.inj H
                            have p19 : 0 ≤ (0 : Int) := (by omega)
                            have q19 : 0 < jt5.size := (by have : (0 : Int) < (jt5.size : Int) := of_decide_eq_true (by first | (with_reducible assumption) | assumption); omega)
                            have hx19 : ∀ h : 0 < jt5.size, ((jt5[0]'h).toNat : Int) = bt jt5 0 := bt_at jt5 0
                            clear p19
                            have qi19 : (0 < (jt5.size : Int)) = True := eq_true (of_decide_eq_true (by first | (with_reducible assumption) | assumption))
                            replace q19 := eq_true q19
                            have p23 : 0 ≤ (1 : Int) := (by omega)
                            have q23 : 1 < jt5.size := (by have : (1 : Int) < (jt5.size : Int) := of_decide_eq_true (by first | (with_reducible assumption) | assumption); omega)
                            have hx23 : ∀ h : 1 < jt5.size, ((jt5[1]'h).toNat : Int) = bt jt5 1 := bt_at jt5 1
                            clear p23
                            have qi23 : (1 < (jt5.size : Int)) = True := eq_true (of_decide_eq_true (by first | (with_reducible assumption) | assumption))
                            replace q23 := eq_true q23
                            go_wp2
                            go_ret
                            exact ⟨by first | rfl | (simp [errW_none, errW_some] <;> rfl) | (simp only [← hji2, ← hjt5]; first | rfl | (simp [errW_none, errW_some] <;> rfl)) | (simp [*, errW_none, errW_some] <;> rfl), by repeat (first | (with_reducible first | exact HB.out | apply below_alloc | apply pw_below_drewN | apply below_drew1) | exact HB.out)⟩
                        · rw [if_neg c22] at H
                          exact absurd H (by simp)
                    · rw [if_neg c20] at H
                      have c20b0 : ((wrap64 (bt jt5 0)) == (wrap64 (x7_1 - 1))) = false := beq_eq_false_iff_ne.mpr c20
                      have c20b1 : ((wrap64 (bt jt5 0)) != (wrap64 (x7_1 - 1))) = true := bne_iff_ne.mpr c20
                      have H' := Aside0.mk H
                      clear H
                      have p19 : 0 ≤ (0 : Int) := (by omega)
                      have q19 : 0 < jt5.size := (by have : (0 : Int) < (jt5.size : Int) := of_decide_eq_true (by first | (with_reducible assumption) | assumption); omega)
                      have hx19 : ∀ h : 0 < jt5.size, ((jt5[0]'h).toNat : Int) = bt jt5 0 := bt_at jt5 0
                      clear p19
                      have qi19 : (0 < (jt5.size : Int)) = True := eq_true (of_decide_eq_true (by first | (with_reducible assumption) | assumption))
                      replace q19 := eq_true q19
                      go_wp2
                      go_roundg k1
                      case measure => have := HK1.out; omega
                      case rel => exact ⟨(wrap64 (x7_1 + 1)), (by first | rfl | (simp; done) | (simp [*]; done)), H', ⟨by have := HK1.out; omega⟩, ⟨by repeat (first | (with_reducible first | exact HB.out | apply below_alloc | apply pw_below_drewN | apply below_drew1) | exact HB.out)⟩⟩
                  · rw [if_neg c18] at H
                    exact absurd H (by simp)
                · rw [if_neg c17] at H
                  have c17b0 : decide (x7_1 ≤ 9) = false := decide_eq_false c17
                  clear c17
                  have H' := Aside0.mk H
                  clear H
                  go_wp2
                  go_roundg k1
                  case measure => have := HK1.out; omega
                  case rel => exact ⟨(wrap64 (x7_1 + 1)), (by first | rfl | (simp; done) | (simp [*]; done)), H', ⟨by have := HK1.out; omega⟩, ⟨by repeat (first | (with_reducible first | exact HB.out | apply below_alloc | apply pw_below_drewN | apply below_drew1) | exact HB.out)⟩⟩
              · rw [if_neg c16] at H
                have c16b0 : decide (0 < x7_1) = false := decide_eq_false c16
                clear c16
                have H' := Aside0.mk H
                clear H
                go_wp2
                go_roundg k1
                case measure => have := HK1.out; omega
                case rel => exact ⟨(wrap64 (x7_1 + 1)), (by first | rfl | (simp; done) | (simp [*]; done)), H', ⟨by have := HK1.out; omega⟩, ⟨by repeat (first | (with_reducible first | exact HB.out | apply below_alloc | apply pw_below_drewN | apply below_drew1) | exact HB.out)⟩⟩
            · rw [if_neg c15] at H
              have c15b0 : decide (x7_1 ≤ (jt5.size : Int)) = false := decide_eq_false c15
              clear c15
              replace H := Option.bind_eq_some_iff.mp H
              obtain ⟨t132, A250, H⟩ := H
              replace H : (if t132 = true then (if t127 = 0 then (some (t128.toList == ([] : List UInt8))) else (some false)) else (some false)) = some r := H
              have A25 := Aside0.mk A250
              clear A250
              by_cases c26 : t132 = true
              · subst c26
                have H1 : (if t127 = 0 then (some (t128.toList == ([] : List UInt8))) else (some false)) = some r := by rw [if_pos rfl] at H; exact H
                clear H
                have H := H1
                clear H1
                by_cases c27 : t127 = 0
                · rw [if_pos c27] at H
                  have c27b0 : (t127 == 0) = true := beq_iff_eq.mpr c27
                  have c27b1 : (t127 != 0) = false := bne_eq_false_iff_eq.mpr c27
                  clear c27
                  obtain rfl := Option.some.inj H
                  go_wp2_with (first | ((with_reducible refine gate_callee (f := 12) rfl ?_); refine goesL_ (some 50) rfl rfl Try.func12 (by kernel_rfl) rfl #[] rfl (by (try simp only [List.map_toArray, List.map_cons, List.map_nil]); first | done | rfl | (simp only [List.length_drop, List.length_take]; rfl)) ?_; (with_reducible refine (keywaylaw03_awake.calls k1  true _ A25.out).mono ?_); rintro e w28 ⟨rfl, hb⟩; refine ⟨_, rfl, ?_⟩; have n0_ := Aside0.mk (below_step (by repeat (first | (with_reducible first | exact HB.out | apply below_alloc | apply pw_below_drewN | apply below_drew1) | exact HB.out)) hb); clear HB; have HB := n0_; clear n0_; (try clear hb); (try clear hb2); (try clear hk); (try clear hi)))
                  go_ret
                  exact ⟨by first | rfl | (simp [errW_none, errW_some] <;> rfl) | (simp only [← hji2, ← hjt5]; first | rfl | (simp [errW_none, errW_some] <;> rfl)) | (simp [*, errW_none, errW_some] <;> rfl), by repeat (first | (with_reducible first | exact HB.out | apply below_alloc | apply pw_below_drewN | apply below_drew1) | exact HB.out)⟩
                · rw [if_neg c27] at H
                  have c27b0 : (t127 == 0) = false := beq_eq_false_iff_ne.mpr c27
                  have c27b1 : (t127 != 0) = true := bne_iff_ne.mpr c27
                  obtain rfl := Option.some.inj H
                  go_wp2_with (first | ((with_reducible refine gate_callee (f := 12) rfl ?_); refine goesL_ (some 50) rfl rfl Try.func12 (by kernel_rfl) rfl #[] rfl (by (try simp only [List.map_toArray, List.map_cons, List.map_nil]); first | done | rfl | (simp only [List.length_drop, List.length_take]; rfl)) ?_; (with_reducible refine (keywaylaw03_awake.calls k1  true _ A25.out).mono ?_); rintro e w29 ⟨rfl, hb⟩; refine ⟨_, rfl, ?_⟩; have n0_ := Aside0.mk (below_step (by repeat (first | (with_reducible first | exact HB.out | apply below_alloc | apply pw_below_drewN | apply below_drew1) | exact HB.out)) hb); clear HB; have HB := n0_; clear n0_; (try clear hb); (try clear hb2); (try clear hk); (try clear hi)))
                  go_ret
                  exact ⟨by first | rfl | (simp [errW_none, errW_some] <;> rfl) | (simp only [← hji2, ← hjt5]; first | rfl | (simp [errW_none, errW_some] <;> rfl)) | (simp [*, errW_none, errW_some] <;> rfl), by repeat (first | (with_reducible first | exact HB.out | apply below_alloc | apply pw_below_drewN | apply below_drew1) | exact HB.out)⟩
              · replace c26 := Bool.eq_false_iff.mpr c26
                subst c26
                have H1 : (some false) = some r := by rw [if_neg (show ¬ (false = true) by decide)] at H; exact H
                clear H
                have H := H1
                clear H1
                obtain rfl := Option.some.inj H
                go_wp2_with (first | ((with_reducible refine gate_callee (f := 12) rfl ?_); refine goesL_ (some 50) rfl rfl Try.func12 (by kernel_rfl) rfl #[] rfl (by (try simp only [List.map_toArray, List.map_cons, List.map_nil]); first | done | rfl | (simp only [List.length_drop, List.length_take]; rfl)) ?_; (with_reducible refine (keywaylaw03_awake.calls k1  false _ A25.out).mono ?_); rintro e w30 ⟨rfl, hb⟩; refine ⟨_, rfl, ?_⟩; have n0_ := Aside0.mk (below_step (by repeat (first | (with_reducible first | exact HB.out | apply below_alloc | apply pw_below_drewN | apply below_drew1) | exact HB.out)) hb); clear HB; have HB := n0_; clear n0_; (try clear hb); (try clear hb2); (try clear hk); (try clear hi)))
                go_ret
                exact ⟨by first | rfl | (simp [errW_none, errW_some] <;> rfl) | (simp only [← hji2, ← hjt5]; first | rfl | (simp [errW_none, errW_some] <;> rfl)) | (simp [*, errW_none, errW_some] <;> rfl), by repeat (first | (with_reducible first | exact HB.out | apply below_alloc | apply pw_below_drewN | apply below_drew1) | exact HB.out)⟩
    · rw [if_neg c4] at H
      exact absurd H (by simp)
  · rw [if_neg c3] at H
    exact absurd H (by simp)

/-- THE ONE PURE STATEMENT of keywaylaw03_WireUnkeys: yours. -/
def keywaylaw03_WireUnkeys.Pure : Prop := ∀ (a0 : ByteArray), a0.size ≤ 140737488351232 → ∃ k, keywaylaw03_WireUnkeys.f k a0 = some true
theorem keywaylaw03_WireUnkeys.walk (P : keywaylaw03_WireUnkeys.Pure) (a0 : ByteArray) (w : World) (w0 : a0.size ≤ 140737488351232) :
    Calls Try.prog 4 #[.string a0] w fun e w' => e = .returned (.bool true) ∧ Below w.heap.size w w' := by
  obtain ⟨k, h⟩ := P a0 w0
  refine (keywaylaw03_WireUnkeys.calls k a0 true w h).mono ?_
  rintro e w' ⟨rfl, hd⟩
  exact ⟨rfl, hd⟩

end Go.Proofs.Ytnejefipkmnioaa.QWireUnkeys
