-- Written by a program of this session.
import Derived.Test.YtnejefipkmnioaaQWireTextsx0
import Derived.Test.YtnejefipkmnioaaQWireTextsx1
import Derived.Test.YtnejefipkmnioaaQWireTextsx2
namespace Go.Proofs.Ytnejefipkmnioaa.QWireTexts
open Go.RowKit Go.Proofs.YtnejefipkmnioaaW.PrintWords Go.Proofs.YtnejefipkmnioaaW.PrintLast Go.Proofs.YtnejefipkmnioaaW.PrintMore
attribute [local go_sem] max2_int min2_int max_two min_two max_three min_three max_four min_four   -- for this text's walks alone
set_option linter.unusedVariables false
set_option linter.unusedSimpArgs false

/-! ### keywayref03_Text: function 27 -/
def keywayref03_Text.f (k : Nat) (a0 : ByteArray) : Option (ByteArray) := (keywayref03_Num.f k (IntKind.u64.wrap ((a0.size : Int)))).bind fun t173 => (if t173.size + a0.size ≤ 9223372036854775807 then (some (t173 ++ a0)) else (none))
theorem keywayref03_Text.mono : ∀ a0 k, LeO (keywayref03_Text.f k a0) (keywayref03_Text.f (k + 1) a0) := by
  intro a0 k
  unfold keywayref03_Text.f
  repeat' first
      | (with_reducible exact keywayref03_Num.mono _ _)
      | (with_reducible exact LeO.refl _)
      | (with_reducible exact LeO.none _)
      | (with_reducible refine LeO.ite ?_ ?_)
      | (with_reducible refine LeO.bind ?_ (fun _ => ?_))
      | exact keywayref03_Num.mono _ _
      | exact LeO.none _
      | refine LeO.ite ?_ ?_
      | refine LeO.bind ?_ (fun _ => ?_)
set_option maxHeartbeats 8000000 in
set_option maxRecDepth 100000 in
theorem keywayref03_Text.calls (k : Nat) (a0 : ByteArray) (r : ByteArray) (w : World) (h : keywayref03_Text.f k a0 = some r) :
    Calls Try.prog 27 #[.string a0] w fun e w' => e = .returned (.string r) ∧ Below w.heap.size w w' := by
  have HB := Aside0.mk (Below.refl w.heap.size w)
  have H : ((keywayref03_Num.f k (IntKind.u64.wrap ((a0.size : Int)))).bind fun t173 => (if t173.size + a0.size ≤ 9223372036854775807 then (some (t173 ++ a0)) else (none))) = some r := h
  clear h
  replace H := Option.bind_eq_some_iff.mp H
  obtain ⟨t173, A20, H⟩ := H
  replace H : (if t173.size + a0.size ≤ 9223372036854775807 then (some (t173 ++ a0)) else (none)) = some r := H
  have A2 := Aside0.mk A20
  clear A20
  by_cases c3 : t173.size + a0.size ≤ 9223372036854775807
  · rw [if_pos c3] at H
    have c3b0 := eq_true c3
    have c3b1 : decide (t173.size + a0.size ≤ 9223372036854775807) = true := decide_eq_true c3
    try have c3b2 : (9223372036854775807 < t173.size + a0.size) = False := eq_false (Nat.not_lt.2 c3)
    clear c3
    obtain rfl := Option.some.inj H
    go_enter Try.func27, Try.ntmps27
    go_wp2_with (first | ((with_reducible refine gate_callee (f := 19) rfl ?_); refine goesL_ (some 6) rfl rfl Try.func19 (by kernel_rfl) rfl #[.int .u64 (IntKind.u64.wrap ((a0.size : Int)))] rfl (by (try simp only [List.map_toArray, List.map_cons, List.map_nil]); first | done | rfl | (simp only [List.length_drop, List.length_take]; rfl)) ?_; (with_reducible refine (keywayref03_Num.calls k (IntKind.u64.wrap ((a0.size : Int))) t173 _ A2.out).mono ?_); rintro e w4 ⟨rfl, hb⟩; refine ⟨_, rfl, ?_⟩; have n0_ := Aside0.mk (below_step (by repeat (first | (with_reducible first | exact HB.out | apply below_alloc | apply pw_below_drewN | apply below_drew1) | exact HB.out)) hb); clear HB; have HB := n0_; clear n0_; (try clear hb); (try clear hb2); (try clear hk); (try clear hi)))
    go_ret
    exact ⟨by first | rfl | (simp [errW_none, errW_some] <;> rfl) | (simp [*, errW_none, errW_some] <;> rfl), by repeat (first | (with_reducible first | exact HB.out | apply below_alloc | apply pw_below_drewN | apply below_drew1) | exact HB.out)⟩
  · rw [if_neg c3] at H
    exact absurd H (by simp)

/-! ### keywayref03_Fixed: function 28 -/
def keywayref03_Fixed.l0 : Nat → Int → Int → ByteArray → Int → Option (ByteArray)
  | 0, _, _, _, _ => none
  | k + 1, x0, x1, x5, x6 => if x6 < x1 then (if x6 < 8 then ((some (([(Int.tmod x0 256) % 256] : List Int) : List Int)).bind fun y174 => (if x5.size + (strOfNums y174).size ≤ 9223372036854775807 then (keywayref03_Fixed.l0 k (IntKind.u64.wrap (Int.tdiv x0 256)) x1 (x5 ++ (strOfNums y174)) (wrap64 (x6 + 1))) else (none))) else (some x5)) else (some x5)
def keywayref03_Fixed.f (k : Nat) (a0 : Int) (a1 : Int) : Option (ByteArray) := keywayref03_Fixed.l0 k a0 a1 (⟨#[]⟩ : ByteArray) 0
theorem keywayref03_Fixed.mono_l : ∀ k, (∀ y0 y1 y2 y3, LeO (keywayref03_Fixed.l0 k y0 y1 y2 y3) (keywayref03_Fixed.l0 (k + 1) y0 y1 y2 y3))
  | 0 => fun _ _ _ _ r h => by simp [keywayref03_Fixed.l0] at h
  | k + 1 => by
    have ih0 := keywayref03_Fixed.mono_l k
    · intro y0 y1 y2 y3
      unfold keywayref03_Fixed.l0
      repeat' first
      | (with_reducible exact ih0 _ _ _ _)
      | (with_reducible exact LeO.refl _)
      | (with_reducible exact LeO.none _)
      | (with_reducible refine LeO.ite ?_ ?_)
      | (with_reducible refine LeO.bind ?_ (fun _ => ?_))
      | exact ih0 _ _ _ _
      | exact LeO.none _
      | refine LeO.ite ?_ ?_
      | refine LeO.bind ?_ (fun _ => ?_)
theorem keywayref03_Fixed.mono : ∀ a0 a1 k, LeO (keywayref03_Fixed.f k a0 a1) (keywayref03_Fixed.f (k + 1) a0 a1) := by
  intro a0 a1 k
  have ih0 := keywayref03_Fixed.mono_l k
  unfold keywayref03_Fixed.f
  repeat' first
      | (with_reducible exact ih0 _ _ _ _)
      | (with_reducible exact LeO.refl _)
      | (with_reducible exact LeO.none _)
      | (with_reducible refine LeO.ite ?_ ?_)
      | (with_reducible refine LeO.bind ?_ (fun _ => ?_))
      | exact ih0 _ _ _ _
      | exact LeO.none _
      | refine LeO.ite ?_ ?_
      | refine LeO.bind ?_ (fun _ => ?_)
set_option maxHeartbeats 8000000 in
set_option maxRecDepth 100000 in
theorem keywayref03_Fixed.calls (k : Nat) (a0 : Int) (a1 : Int) (r : ByteArray) (w : World) (h : keywayref03_Fixed.f k a0 a1 = some r) :
    Calls Try.prog 28 #[.int .u64 a0, .int .i64 a1] w fun e w' => e = .returned (.string r) ∧ Below w.heap.size w w' := by
  have HB := Aside0.mk (Below.refl w.heap.size w)
  have H : (keywayref03_Fixed.l0 k a0 a1 (⟨#[]⟩ : ByteArray) 0) = some r := h
  clear h
  have H' := Aside0.mk H
  clear H
  go_enter Try.func28, Try.ntmps28
  go_wp2
  go_loopg [0, 5, 6] k (fun kq v0 v5 v6 w' => ∃ (x0_1 : Int) (x5_1 : ByteArray) (x6_1 : Int), v0 = .int .u64 x0_1 ∧ v5 = .string x5_1 ∧ v6 = .int .i64 x6_1 ∧ Aside0 (keywayref03_Fixed.l0 kq x0_1 a1 x5_1 x6_1 = some r) ∧ Aside0 (kq ≤ k) ∧ Aside0 (Below w.heap.size w w'))
  case atStart => exact ⟨(a0), ((⟨#[]⟩ : ByteArray)), (0), (by first | rfl | (simp; done) | (simp [*]; done)), (by first | rfl | (simp; done) | (simp [*]; done)), (by first | rfl | (simp; done) | (simp [*]; done)), H', ⟨Nat.le_refl _⟩, ⟨by repeat (first | (with_reducible first | exact HB.out | apply below_alloc | apply pw_below_drewN | apply below_drew1) | exact HB.out)⟩⟩
  case round =>
    clear H'
    try clear c2
    try clear p2
    obtain ⟨x0_1, x5_1, x6_1, rfl, rfl, rfl, HA, HK1, HB⟩ := hrel
    cases gk with
    | zero => exact absurd HA.out (by simp [keywayref03_Fixed.l0])
    | succ k1 =>
      have H := HA.out
      clear HA
      simp only [keywayref03_Fixed.l0] at H
      by_cases c3 : x6_1 < a1
      · rw [if_pos c3] at H
        have c3b0 : decide (x6_1 < a1) = true := decide_eq_true c3
        clear c3
        by_cases c4 : x6_1 < 8
        · rw [if_pos c4] at H
          have c4b0 : decide (x6_1 < 8) = true := decide_eq_true c4
          clear c4
          obtain ⟨y174, hy174⟩ : ∃ y_ : List Int, y_ = (([(Int.tmod x0_1 256) % 256] : List Int)) := ⟨_, rfl⟩
          replace H : (if x5_1.size + (strOfNums y174).size ≤ 9223372036854775807 then (keywayref03_Fixed.l0 k1 (IntKind.u64.wrap (Int.tdiv x0_1 256)) a1 (x5_1 ++ (strOfNums y174)) (wrap64 (x6_1 + 1))) else (none)) = some r := by first | (rw [hy174]; with_reducible exact H) | (have H2_ := (Option.bind_some _ _).symm.trans H; rw [hy174]; with_reducible exact H2_) | (have H2_ := (Option.bind_some _ _).symm.trans H; with_reducible exact H2_) | with_reducible exact H | (rw [hy174]; exact H) | exact H
          have Ny174 := Aside0.mk hy174
          clear hy174
          by_cases c5 : x5_1.size + (strOfNums y174).size ≤ 9223372036854775807
          · rw [if_pos c5] at H
            have c5b0 := eq_true c5
            have c5b1 : decide (x5_1.size + (strOfNums y174).size ≤ 9223372036854775807) = true := decide_eq_true c5
            try have c5b2 : (9223372036854775807 < x5_1.size + (strOfNums y174).size) = False := eq_false (Nat.not_lt.2 c5)
            clear c5
            have H' := Aside0.mk H
            clear H
            go_wp2_with (first | ((with_reducible refine gate_dst (N := 20) rfl ?_); refine Kd.R_lit (Kd.int .u8) _ 5 ?hg (N := 20) ?hd (xs := ([(Int.tmod x0_1 256) % 256] : List Int)) (inner := [.int .u8 ((Int.tmod x0_1 256) % 256)]) (ok := fun _ => True) (okp := fun _ => True) ?hr ?hp (fun _ hk => hk) trivial (Below.refl _ _) (Nat.le_refl _) (by simp) ?_; (case hd => rfl); (case hg => rfl); (case hr => first | (go_simp; done) | (go_simp; rfl)); (case hp => exact (Reps.one (show Kd.M (Kd.int .u8) _ _ _ ((Int.tmod x0_1 256) % 256) [.int .u8 ((Int.tmod x0_1 256) % 256)] from rfl) (Reps.none _ _))); intro v175 w6 ho7 hb hg_ hnew_; clear hg_ hnew_; (first | rw [← Ny174.out] at ho7 | (simp only [Int.reduceToNat] at ho7; rw [← Ny174.out] at ho7)); have n0_ := Aside0.mk (Kd.R_lower ho7 (below_size (by repeat (first | (with_reducible first | exact HB.out | apply below_alloc | apply pw_below_drewN | apply below_drew1) | exact HB.out)))); have n1_ := Aside0.mk (below_step (by repeat (first | (with_reducible first | exact HB.out | apply below_alloc | apply pw_below_drewN | apply below_drew1) | exact HB.out)) hb); clear HB; have HO176 := n0_; have HB := n1_; clear n0_ n1_; clear hb ho7; have hcv8 := own_string (P := Try.prog) Try.underlying54 Try.underlying5 Try.underlying9 (Kd.own_of_R HO176.out)))
            go_roundg k1
            case measure => have := HK1.out; omega
            case rel => exact ⟨(IntKind.u64.wrap (Int.tdiv x0_1 256)), (x5_1 ++ (strOfNums y174)), (wrap64 (x6_1 + 1)), (by first | rfl | (simp; done) | (simp [*]; done)), (by first | rfl | (simp; done) | (simp [*]; done)), (by first | rfl | (simp; done) | (simp [*]; done)), H', ⟨by have := HK1.out; omega⟩, ⟨by repeat (first | (with_reducible first | exact HB.out | apply below_alloc | apply pw_below_drewN | apply below_drew1) | exact HB.out)⟩⟩
          · rw [if_neg c5] at H
            exact absurd H (by simp)
        · rw [if_neg c4] at H
          have c4b0 : decide (x6_1 < 8) = false := decide_eq_false c4
          clear c4
          obtain rfl := Option.some.inj H
          go_wp2
          go_ret
          exact ⟨by first | rfl | (simp [errW_none, errW_some] <;> rfl) | (simp [*, errW_none, errW_some] <;> rfl), by repeat (first | (with_reducible first | exact HB.out | apply below_alloc | apply pw_below_drewN | apply below_drew1) | exact HB.out)⟩
      · rw [if_neg c3] at H
        have c3b0 : decide (x6_1 < a1) = false := decide_eq_false c3
        clear c3
        obtain rfl := Option.some.inj H
        go_wp2
        go_ret
        exact ⟨by first | rfl | (simp [errW_none, errW_some] <;> rfl) | (simp [*, errW_none, errW_some] <;> rfl), by repeat (first | (with_reducible first | exact HB.out | apply below_alloc | apply pw_below_drewN | apply below_drew1) | exact HB.out)⟩

/-! ### keywaylaw03_WireTexts: function 7 -/
def keywaylaw03_WireTexts.j0 : Nat → Int → Int → ByteArray → Int → ByteArray → Int → Int → ByteArray → Int → Option (Bool)
  | 0, _, _, _, _, _, _, _, _, _ => none
  | k + 1, x1, x2, x7, x8, x10, x11, x12, x182000, x182001 => (keywaylaw03_awake.f k).bind fun t188 => (if t188 = true then ((wire_Text.f k x7).bind fun t189 => ((keywayref03_Text.f k x7).bind fun t190 => (if t189.toList = t190.toList then ((wire_Fixed.f k x1 x2).bind fun t191 => ((keywayref03_Fixed.f k x1 x8).bind fun t192 => (if t191.toList = t192.toList then (if x10.toList = x7.toList then (if x11 = x12 then ((wire_Reader_End.f k x182000 x182001).bind fun bt193 => (some (bt193.1 == 0))) else (some false)) else (some false)) else (some false)))) else (some false)))) else (some false))
def keywaylaw03_WireTexts.f (k : Nat) (a0 : ByteArray) (a1 : Int) (a2 : Int) : Option (Bool) := if 0 ≤ (mn (a0.size : Int) 300) then (if (mn (a0.size : Int) 300) ≤ (a0.size : Int) then ((wire_Text.f k (a0.extract 0 ((mn (a0.size : Int) 300) : Int).toNat)).bind fun t177 => ((wire_Fixed.f k a1 a2).bind fun t178 => (if t177.size + t178.size ≤ 9223372036854775807 then ((wire_New.f (t177 ++ t178)).bind fun bt179 => ((wire_Reader_Text.f k bt179.1 bt179.2 300).bind fun bt182 => ((wire_Reader_Fixed.f k bt182.2.1 bt182.2.2 a2).bind fun bt185 => (if (mn (mx a2 0) 8) < 8 then (keywaylaw03_WireTexts.j0 k a1 a2 (a0.extract 0 ((mn (a0.size : Int) 300) : Int).toNat) (mn (mx a2 0) 8) bt182.1 bt185.1 (Go.bits .and .u64 a1 (IntKind.u64.wrap ((IntKind.u64.wrap (2 ^ (8 * (mn (mx a2 0) 8)).toNat)) - 1))) bt185.2.1 bt185.2.2) else (keywaylaw03_WireTexts.j0 k a1 a2 (a0.extract 0 ((mn (a0.size : Int) 300) : Int).toNat) (mn (mx a2 0) 8) bt182.1 bt185.1 a1 bt185.2.1 bt185.2.2))))) else (none)))) else (none)) else (none)
theorem keywaylaw03_WireTexts.mono_l : ∀ k, (∀ y0 y1 y2 y3 y4 y5 y6 y7 y8, LeO (keywaylaw03_WireTexts.j0 k y0 y1 y2 y3 y4 y5 y6 y7 y8) (keywaylaw03_WireTexts.j0 (k + 1) y0 y1 y2 y3 y4 y5 y6 y7 y8))
  | 0 => fun _ _ _ _ _ _ _ _ _ r h => by simp [keywaylaw03_WireTexts.j0] at h
  | k + 1 => by
    have ih0 := keywaylaw03_WireTexts.mono_l k
    · intro y0 y1 y2 y3 y4 y5 y6 y7 y8
      unfold keywaylaw03_WireTexts.j0
      repeat' first
      | (with_reducible exact ih0 _ _ _ _ _ _ _ _ _)
      | (with_reducible exact keywaylaw03_awake.mono _)
      | (with_reducible exact keywayref03_Fixed.mono _ _ _)
      | (with_reducible exact keywayref03_Text.mono _ _)
      | (with_reducible exact wire_Fixed.mono _ _ _)
      | (with_reducible exact wire_Reader_End.mono _ _ _)
      | (with_reducible exact wire_Reader_Fixed.mono _ _ _ _)
      | (with_reducible exact wire_Reader_Text.mono _ _ _ _)
      | (with_reducible exact wire_Text.mono _ _)
      | (with_reducible exact LeO.refl _)
      | (with_reducible exact LeO.none _)
      | (with_reducible refine LeO.ite ?_ ?_)
      | (with_reducible refine LeO.bind ?_ (fun _ => ?_))
      | exact ih0 _ _ _ _ _ _ _ _ _
      | exact keywaylaw03_awake.mono _
      | exact keywayref03_Fixed.mono _ _ _
      | exact keywayref03_Text.mono _ _
      | exact wire_Fixed.mono _ _ _
      | exact wire_Reader_End.mono _ _ _
      | exact wire_Reader_Fixed.mono _ _ _ _
      | exact wire_Reader_Text.mono _ _ _ _
      | exact wire_Text.mono _ _
      | exact LeO.none _
      | refine LeO.ite ?_ ?_
      | refine LeO.bind ?_ (fun _ => ?_)
theorem keywaylaw03_WireTexts.mono : ∀ a0 a1 a2 k, LeO (keywaylaw03_WireTexts.f k a0 a1 a2) (keywaylaw03_WireTexts.f (k + 1) a0 a1 a2) := by
  intro a0 a1 a2 k
  have ih0 := keywaylaw03_WireTexts.mono_l k
  unfold keywaylaw03_WireTexts.f
  repeat' first
      | (with_reducible exact ih0 _ _ _ _ _ _ _ _ _)
      | (with_reducible exact keywaylaw03_awake.mono _)
      | (with_reducible exact keywayref03_Fixed.mono _ _ _)
      | (with_reducible exact keywayref03_Text.mono _ _)
      | (with_reducible exact wire_Fixed.mono _ _ _)
      | (with_reducible exact wire_Reader_End.mono _ _ _)
      | (with_reducible exact wire_Reader_Fixed.mono _ _ _ _)
      | (with_reducible exact wire_Reader_Text.mono _ _ _ _)
      | (with_reducible exact wire_Text.mono _ _)
      | (with_reducible exact LeO.refl _)
      | (with_reducible exact LeO.none _)
      | (with_reducible refine LeO.ite ?_ ?_)
      | (with_reducible refine LeO.bind ?_ (fun _ => ?_))
      | exact ih0 _ _ _ _ _ _ _ _ _
      | exact keywaylaw03_awake.mono _
      | exact keywayref03_Fixed.mono _ _ _
      | exact keywayref03_Text.mono _ _
      | exact wire_Fixed.mono _ _ _
      | exact wire_Reader_End.mono _ _ _
      | exact wire_Reader_Fixed.mono _ _ _ _
      | exact wire_Reader_Text.mono _ _ _ _
      | exact wire_Text.mono _ _
      | exact LeO.none _
      | refine LeO.ite ?_ ?_
      | refine LeO.bind ?_ (fun _ => ?_)
set_option maxHeartbeats 8000000 in
set_option maxRecDepth 100000 in
theorem keywaylaw03_WireTexts.calls (k : Nat) (a0 : ByteArray) (a1 : Int) (a2 : Int) (r : Bool) (w : World) (h : keywaylaw03_WireTexts.f k a0 a1 a2 = some r) :
    Calls Try.prog 7 #[.string a0, .int .u64 a1, .int .i64 a2] w fun e w' => e = .returned (.bool r) ∧ Below w.heap.size w w' := by
  have HB := Aside0.mk (Below.refl w.heap.size w)
  have H : (if 0 ≤ (mn (a0.size : Int) 300) then (if (mn (a0.size : Int) 300) ≤ (a0.size : Int) then ((wire_Text.f k (a0.extract 0 ((mn (a0.size : Int) 300) : Int).toNat)).bind fun t177 => ((wire_Fixed.f k a1 a2).bind fun t178 => (if t177.size + t178.size ≤ 9223372036854775807 then ((wire_New.f (t177 ++ t178)).bind fun bt179 => ((wire_Reader_Text.f k bt179.1 bt179.2 300).bind fun bt182 => ((wire_Reader_Fixed.f k bt182.2.1 bt182.2.2 a2).bind fun bt185 => (if (mn (mx a2 0) 8) < 8 then (keywaylaw03_WireTexts.j0 k a1 a2 (a0.extract 0 ((mn (a0.size : Int) 300) : Int).toNat) (mn (mx a2 0) 8) bt182.1 bt185.1 (Go.bits .and .u64 a1 (IntKind.u64.wrap ((IntKind.u64.wrap (2 ^ (8 * (mn (mx a2 0) 8)).toNat)) - 1))) bt185.2.1 bt185.2.2) else (keywaylaw03_WireTexts.j0 k a1 a2 (a0.extract 0 ((mn (a0.size : Int) 300) : Int).toNat) (mn (mx a2 0) 8) bt182.1 bt185.1 a1 bt185.2.1 bt185.2.2))))) else (none)))) else (none)) else (none)) = some r := h
  clear h
  obtain ⟨ji4, hji4⟩ : ∃ j_ : Int, (mn (a0.size : Int) 300) = j_ := ⟨_, rfl⟩
  replace H : (if 0 ≤ (ji4) then (if (ji4) ≤ (a0.size : Int) then ((wire_Text.f k (a0.extract 0 ((ji4) : Int).toNat)).bind fun t177 => ((wire_Fixed.f k a1 a2).bind fun t178 => (if t177.size + t178.size ≤ 9223372036854775807 then ((wire_New.f (t177 ++ t178)).bind fun bt179 => ((wire_Reader_Text.f k bt179.1 bt179.2 300).bind fun bt182 => ((wire_Reader_Fixed.f k bt182.2.1 bt182.2.2 a2).bind fun bt185 => (if (mn (mx a2 0) 8) < 8 then (keywaylaw03_WireTexts.j0 k a1 a2 (a0.extract 0 ((ji4) : Int).toNat) (mn (mx a2 0) 8) bt182.1 bt185.1 (Go.bits .and .u64 a1 (IntKind.u64.wrap ((IntKind.u64.wrap (2 ^ (8 * (mn (mx a2 0) 8)).toNat)) - 1))) bt185.2.1 bt185.2.2) else (keywaylaw03_WireTexts.j0 k a1 a2 (a0.extract 0 ((ji4) : Int).toNat) (mn (mx a2 0) 8) bt182.1 bt185.1 a1 bt185.2.1 bt185.2.2))))) else (none)))) else (none)) else (none)) = some r := by first | (rw [hji4] at H; exact H) | (simp only [hji4] at H ⊢; exact H)
  (try (have hji4h : ji4 ≤ 300 := by (rw [← hji4]; unfold mn; (repeat' split) <;> omega)))
  (try (have hji4g : ji4 ≤ 64 := by omega))
  (try (have hji4l : 0 ≤ ji4 := by (rw [← hji4]; unfold mn; (repeat' split) <;> omega)))
  (try (have hji4m : 0 ≤ ji4 := by omega))
  have hji4_ : (if 300 < (a0.size : Int) then 300 else (a0.size : Int)) = ji4 := hji4
  by_cases c5 : 0 ≤ (ji4)
  · rw [if_pos c5] at H
    have c5b0 := eq_true c5
    have c5b1 : decide (0 ≤ (ji4)) = true := decide_eq_true c5
    clear c5
    by_cases c6 : (ji4) ≤ (a0.size : Int)
    · rw [if_pos c6] at H
      have c6b0 := eq_true c6
      have c6b1 : decide ((ji4) ≤ (a0.size : Int)) = true := decide_eq_true c6
      clear c6
      obtain ⟨jt7, hjt7⟩ : ∃ j_ : ByteArray, (a0.extract 0 ((ji4) : Int).toNat) = j_ := ⟨_, rfl⟩
      replace H : ((wire_Text.f k (jt7)).bind fun t177 => ((wire_Fixed.f k a1 a2).bind fun t178 => (if t177.size + t178.size ≤ 9223372036854775807 then ((wire_New.f (t177 ++ t178)).bind fun bt179 => ((wire_Reader_Text.f k bt179.1 bt179.2 300).bind fun bt182 => ((wire_Reader_Fixed.f k bt182.2.1 bt182.2.2 a2).bind fun bt185 => (if (mn (mx a2 0) 8) < 8 then (keywaylaw03_WireTexts.j0 k a1 a2 jt7 (mn (mx a2 0) 8) bt182.1 bt185.1 (Go.bits .and .u64 a1 (IntKind.u64.wrap ((IntKind.u64.wrap (2 ^ (8 * (mn (mx a2 0) 8)).toNat)) - 1))) bt185.2.1 bt185.2.2) else (keywaylaw03_WireTexts.j0 k a1 a2 jt7 (mn (mx a2 0) 8) bt182.1 bt185.1 a1 bt185.2.1 bt185.2.2))))) else (none)))) = some r := by first | (rw [hjt7] at H; exact H) | (simp only [hjt7] at H ⊢; exact H)
      obtain ⟨ji8, hji8⟩ : ∃ j_ : Int, (mx a2 0) = j_ := ⟨_, rfl⟩
      replace H : ((wire_Text.f k (jt7)).bind fun t177 => ((wire_Fixed.f k a1 a2).bind fun t178 => (if t177.size + t178.size ≤ 9223372036854775807 then ((wire_New.f (t177 ++ t178)).bind fun bt179 => ((wire_Reader_Text.f k bt179.1 bt179.2 300).bind fun bt182 => ((wire_Reader_Fixed.f k bt182.2.1 bt182.2.2 a2).bind fun bt185 => (if (mn (ji8) 8) < 8 then (keywaylaw03_WireTexts.j0 k a1 a2 jt7 (mn (ji8) 8) bt182.1 bt185.1 (Go.bits .and .u64 a1 (IntKind.u64.wrap ((IntKind.u64.wrap (2 ^ (8 * (mn (ji8) 8)).toNat)) - 1))) bt185.2.1 bt185.2.2) else (keywaylaw03_WireTexts.j0 k a1 a2 jt7 (mn (ji8) 8) bt182.1 bt185.1 a1 bt185.2.1 bt185.2.2))))) else (none)))) = some r := by first | (rw [hji8] at H; exact H) | (simp only [hji8] at H ⊢; exact H)
      (try (have hji8l : 0 ≤ ji8 := by (rw [← hji8]; unfold mx; (repeat' split) <;> omega)))
      (try (have hji8m : 0 ≤ ji8 := by omega))
      have hji8_ : (if a2 < 0 then 0 else a2) = ji8 := hji8
      obtain ⟨ji9, hji9⟩ : ∃ j_ : Int, (mn (ji8) 8) = j_ := ⟨_, rfl⟩
      replace H : ((wire_Text.f k (jt7)).bind fun t177 => ((wire_Fixed.f k a1 a2).bind fun t178 => (if t177.size + t178.size ≤ 9223372036854775807 then ((wire_New.f (t177 ++ t178)).bind fun bt179 => ((wire_Reader_Text.f k bt179.1 bt179.2 300).bind fun bt182 => ((wire_Reader_Fixed.f k bt182.2.1 bt182.2.2 a2).bind fun bt185 => (if (ji9) < 8 then (keywaylaw03_WireTexts.j0 k a1 a2 jt7 ji9 bt182.1 bt185.1 (Go.bits .and .u64 a1 (IntKind.u64.wrap ((IntKind.u64.wrap (2 ^ (8 * (ji9)).toNat)) - 1))) bt185.2.1 bt185.2.2) else (keywaylaw03_WireTexts.j0 k a1 a2 jt7 ji9 bt182.1 bt185.1 a1 bt185.2.1 bt185.2.2))))) else (none)))) = some r := by first | (rw [hji9] at H; exact H) | (simp only [hji9] at H ⊢; exact H)
      have hji9_ : (if 8 < (ji8) then 8 else (ji8)) = ji9 := hji9
      replace H := Option.bind_eq_some_iff.mp H
      obtain ⟨t177, A100, H⟩ := H
      replace H : ((wire_Fixed.f k a1 a2).bind fun t178 => (if t177.size + t178.size ≤ 9223372036854775807 then ((wire_New.f (t177 ++ t178)).bind fun bt179 => ((wire_Reader_Text.f k bt179.1 bt179.2 300).bind fun bt182 => ((wire_Reader_Fixed.f k bt182.2.1 bt182.2.2 a2).bind fun bt185 => (if (ji9) < 8 then (keywaylaw03_WireTexts.j0 k a1 a2 jt7 ji9 bt182.1 bt185.1 (Go.bits .and .u64 a1 (IntKind.u64.wrap ((IntKind.u64.wrap (2 ^ (8 * (ji9)).toNat)) - 1))) bt185.2.1 bt185.2.2) else (keywaylaw03_WireTexts.j0 k a1 a2 jt7 ji9 bt182.1 bt185.1 a1 bt185.2.1 bt185.2.2))))) else (none))) = some r := H
      have A10 := Aside0.mk A100
      clear A100
      replace H := Option.bind_eq_some_iff.mp H
      obtain ⟨t178, A110, H⟩ := H
      replace H : (if t177.size + t178.size ≤ 9223372036854775807 then ((wire_New.f (t177 ++ t178)).bind fun bt179 => ((wire_Reader_Text.f k bt179.1 bt179.2 300).bind fun bt182 => ((wire_Reader_Fixed.f k bt182.2.1 bt182.2.2 a2).bind fun bt185 => (if (ji9) < 8 then (keywaylaw03_WireTexts.j0 k a1 a2 jt7 ji9 bt182.1 bt185.1 (Go.bits .and .u64 a1 (IntKind.u64.wrap ((IntKind.u64.wrap (2 ^ (8 * (ji9)).toNat)) - 1))) bt185.2.1 bt185.2.2) else (keywaylaw03_WireTexts.j0 k a1 a2 jt7 ji9 bt182.1 bt185.1 a1 bt185.2.1 bt185.2.2))))) else (none)) = some r := H
      have A11 := Aside0.mk A110
      clear A110
      by_cases c12 : t177.size + t178.size ≤ 9223372036854775807
      · rw [if_pos c12] at H
        have c12b0 := eq_true c12
        have c12b1 : decide (t177.size + t178.size ≤ 9223372036854775807) = true := decide_eq_true c12
        try have c12b2 : (9223372036854775807 < t177.size + t178.size) = False := eq_false (Nat.not_lt.2 c12)
        clear c12
        replace H := Option.bind_eq_some_iff.mp H
        obtain ⟨⟨t179, t180⟩, A130, H⟩ := H
        replace H : ((wire_Reader_Text.f k t179 t180 300).bind fun bt182 => ((wire_Reader_Fixed.f k bt182.2.1 bt182.2.2 a2).bind fun bt185 => (if (ji9) < 8 then (keywaylaw03_WireTexts.j0 k a1 a2 jt7 ji9 bt182.1 bt185.1 (Go.bits .and .u64 a1 (IntKind.u64.wrap ((IntKind.u64.wrap (2 ^ (8 * (ji9)).toNat)) - 1))) bt185.2.1 bt185.2.2) else (keywaylaw03_WireTexts.j0 k a1 a2 jt7 ji9 bt182.1 bt185.1 a1 bt185.2.1 bt185.2.2)))) = some r := H
        have A13 := Aside0.mk A130
        clear A130
        replace H := Option.bind_eq_some_iff.mp H
        obtain ⟨⟨t182, t183, t184⟩, A140, H⟩ := H
        replace H : ((wire_Reader_Fixed.f k t183 t184 a2).bind fun bt185 => (if (ji9) < 8 then (keywaylaw03_WireTexts.j0 k a1 a2 jt7 ji9 t182 bt185.1 (Go.bits .and .u64 a1 (IntKind.u64.wrap ((IntKind.u64.wrap (2 ^ (8 * (ji9)).toNat)) - 1))) bt185.2.1 bt185.2.2) else (keywaylaw03_WireTexts.j0 k a1 a2 jt7 ji9 t182 bt185.1 a1 bt185.2.1 bt185.2.2))) = some r := H
        have A14 := Aside0.mk A140
        clear A140
        replace H := Option.bind_eq_some_iff.mp H
        obtain ⟨⟨t185, t186, t187⟩, A150, H⟩ := H
        replace H : (if (ji9) < 8 then (keywaylaw03_WireTexts.j0 k a1 a2 jt7 ji9 t182 t185 (Go.bits .and .u64 a1 (IntKind.u64.wrap ((IntKind.u64.wrap (2 ^ (8 * (ji9)).toNat)) - 1))) t186 t187) else (keywaylaw03_WireTexts.j0 k a1 a2 jt7 ji9 t182 t185 a1 t186 t187)) = some r := H
        have A15 := Aside0.mk A150
        clear A150
        have HC16 := Aside0.mk H
        clear H
        go_enter Try.func7, Try.ntmps7
        go_upto_if 35 with (first | ((with_reducible refine gate_callee (f := 25) rfl ?_); refine goesL_ (some 22) rfl rfl Try.func25 (by kernel_rfl) rfl #[.string jt7] rfl (by (try simp only [List.map_toArray, List.map_cons, List.map_nil]); first | done | rfl | (simp only [List.length_drop, List.length_take]; rfl)) ?_; (with_reducible refine (wire_Text.calls k jt7 t177 _ A10.out).mono ?_); rintro e w17 ⟨rfl, hb⟩; refine ⟨_, rfl, ?_⟩; have n0_ := Aside0.mk (below_step (by repeat (first | (with_reducible first | exact HB.out | apply below_alloc | apply pw_below_drewN | apply below_drew1) | exact HB.out)) hb); clear HB; have HB := n0_; clear n0_; (try clear hb); (try clear hb2); (try clear hk); (try clear hi)) | ((with_reducible refine gate_callee (f := 26) rfl ?_); refine goesL_ (some 25) rfl rfl Try.func26 (by kernel_rfl) rfl #[.int .u64 a1, .int .i64 a2] rfl (by (try simp only [List.map_toArray, List.map_cons, List.map_nil]); first | done | rfl | (simp only [List.length_drop, List.length_take]; rfl)) ?_; (with_reducible refine (wire_Fixed.calls k a1 a2 t178 _ A11.out).mono ?_); rintro e w18 ⟨rfl, hb⟩; refine ⟨_, rfl, ?_⟩; have n0_ := Aside0.mk (below_step (by repeat (first | (with_reducible first | exact HB.out | apply below_alloc | apply pw_below_drewN | apply below_drew1) | exact HB.out)) hb); clear HB; have HB := n0_; clear n0_; (try clear hb); (try clear hb2); (try clear hk); (try clear hi)) | ((with_reducible refine gate_callee (f := 14) rfl ?_); refine goesL_ (some 27) rfl rfl Try.func14 (by kernel_rfl) rfl #[.string (t177 ++ t178)] rfl (by (try simp only [List.map_toArray, List.map_cons, List.map_nil]); first | done | rfl | (simp only [List.length_drop, List.length_take]; rfl)) ?_; (with_reducible refine (wire_New.calls (t177 ++ t178) t179 t180 w _ ?side1 A13.out).mono ?_); (case side1 => repeat (first | (with_reducible first | exact HB.out | apply below_alloc | apply pw_below_drewN | apply below_drew1) | exact HB.out)); rintro e w19 ⟨g181, rfl, hi, hb, hb2⟩; refine ⟨_, rfl, ?_⟩; have n0_ := Aside0.mk (hb); have n1_ := Aside0.mk (hi); clear HB; have HB := n0_; have HI181 := n1_; clear n0_ n1_; (try clear hb); (try clear hb2); (try clear hk); (try clear hi)) | ((with_reducible refine gate_callee (f := 24) rfl ?_); refine goesL_ (some 29) rfl rfl Try.func24 (by kernel_rfl) rfl #[.pointer (some ⟨g181, 0, none⟩), .int .i64 300] rfl (by (try simp only [List.map_toArray, List.map_cons, List.map_nil]); first | done | rfl | (simp only [List.length_drop, List.length_take]; rfl)) ?_; (with_reducible refine (wire_Reader_Text.calls k g181 t179 t180 300 t182 t183 t184 w _ ?side1 ?side2 A14.out).mono ?_); (case side1 => repeat (first | (with_reducible first | exact HI181.out | apply IsS56.alloc | apply IsS56.drewN | apply IsS56.drew | apply IsS56.set_0 | apply IsS56.set_1) | exact HI181.out)); (case side2 => repeat (first | (with_reducible first | exact HB.out | apply below_alloc | apply pw_below_drewN | apply below_drew1 | refine below_set ?_ (IsS56.ge HI181.out)) | exact HB.out)); rintro e w20 ⟨rfl, hi, hb, hk⟩; refine ⟨_, rfl, ?_⟩; have n0_ := Aside0.mk (hb); have n1_ := Aside0.mk (hi); clear HB; clear HI181; have HB := n0_; have HI181 := n1_; clear n0_ n1_; (try clear hb); (try clear hb2); (try clear hk); (try clear hi)) | ((with_reducible refine gate_callee (f := 23) rfl ?_); refine goesL_ (some 32) rfl rfl Try.func23 (by kernel_rfl) rfl #[.pointer (some ⟨g181, 0, none⟩), .int .i64 a2] rfl (by (try simp only [List.map_toArray, List.map_cons, List.map_nil]); first | done | rfl | (simp only [List.length_drop, List.length_take]; rfl)) ?_; (with_reducible refine (wire_Reader_Fixed.calls k g181 t183 t184 a2 t185 t186 t187 w _ ?side1 ?side2 A15.out).mono ?_); (case side1 => repeat (first | (with_reducible first | exact HI181.out | apply IsS56.alloc | apply IsS56.drewN | apply IsS56.drew | apply IsS56.set_0 | apply IsS56.set_1) | exact HI181.out)); (case side2 => repeat (first | (with_reducible first | exact HB.out | apply below_alloc | apply pw_below_drewN | apply below_drew1 | refine below_set ?_ (IsS56.ge HI181.out)) | exact HB.out)); rintro e w21 ⟨rfl, hi, hb, hk⟩; refine ⟨_, rfl, ?_⟩; have n0_ := Aside0.mk (hb); have n1_ := Aside0.mk (hi); clear HB; clear HI181; have HB := n0_; have HI181 := n1_; clear n0_ n1_; (try clear hb); (try clear hb2); (try clear hk); (try clear hi)))
        (try simp only [Act.put, List.setIfInBounds_toArray, List.set_cons_zero, List.set_cons_succ])
        go_cut [12] (fun v12 wc => ∃ (kq : Nat) (x12_15 : Int), v12 = .int .u64 x12_15 ∧ Aside0 (keywaylaw03_WireTexts.j0 kq a1 a2 jt7 ji9 t182 t185 x12_15 t186 t187 = some r) ∧ Aside0 (kq ≤ k) ∧ Aside0 (IsS56 w wc g181 t186 t187) ∧ Aside0 (Below w.heap.size w wc))
        case first =>
          have H := HC16.out
          clear HC16
          by_cases c22 : (ji9) < 8
          · rw [if_pos c22] at H
            have c22b0 : decide ((ji9) < 8) = true := decide_eq_true c22
            clear c22
            (first | rw [c22b0] | (simp only [i64_w, i32_w]; rw [c22b0]) | skip)
            have H' := Aside0.mk H
            clear H
            go_wp2
            go_meet
            case rel => exact ⟨_, (Go.bits .and .u64 a1 (IntKind.u64.wrap ((IntKind.u64.wrap (2 ^ (8 * (ji9)).toNat)) - 1))), (by first | rfl | (simp; done) | (simp only [← hji9] <;> (first | rfl | simp)) | (simp [*]; done)), H', ⟨by first | omega | exact Nat.le_refl _⟩, ⟨by repeat (first | (with_reducible first | exact HI181.out | apply IsS56.alloc | apply IsS56.drewN | apply IsS56.drew | apply IsS56.set_0 | apply IsS56.set_1) | exact HI181.out)⟩, ⟨by repeat (first | (with_reducible first | exact HB.out | apply below_alloc | apply pw_below_drewN | apply below_drew1 | refine below_set ?_ (IsS56.ge HI181.out)) | exact HB.out)⟩⟩
          · rw [if_neg c22] at H
            have c22b0 : decide ((ji9) < 8) = false := decide_eq_false c22
            clear c22
            (first | rw [c22b0] | (simp only [i64_w, i32_w]; rw [c22b0]) | skip)
            have H' := Aside0.mk H
            clear H
            go_wp2
            go_meet
            case rel => exact ⟨_, (a1), (by first | rfl | (simp; done) | (simp [*]; done)), H', ⟨by first | omega | exact Nat.le_refl _⟩, ⟨by repeat (first | (with_reducible first | exact HI181.out | apply IsS56.alloc | apply IsS56.drewN | apply IsS56.drew | apply IsS56.set_0 | apply IsS56.set_1) | exact HI181.out)⟩, ⟨by repeat (first | (with_reducible first | exact HB.out | apply below_alloc | apply pw_below_drewN | apply below_drew1 | refine below_set ?_ (IsS56.ge HI181.out)) | exact HB.out)⟩⟩
        case rest =>
          clear HC16
          try clear c1
          try clear c2
          try clear p2
          try clear c5
          try clear c5b0
          try clear c5b1
          try clear c6
          try clear c6b0
          try clear c6b1
          try clear c7
          try clear c12
          try clear c12b0
          try clear c12b1
          try clear c12b2
          try clear c14
          try clear c22
          try clear c22b0
          obtain ⟨kq, x12_15, rfl, HA, HJ15, HI181, HB⟩ := hcut
          cases kq with
          | zero => exact absurd HA.out (by simp [keywaylaw03_WireTexts.j0])
          | succ kj15 =>
            have H := HA.out
            clear HA
            simp only [keywaylaw03_WireTexts.j0] at H
            replace H := Option.bind_eq_some_iff.mp H
            obtain ⟨t188, A230, H⟩ := H
            replace H : (if t188 = true then ((wire_Text.f kj15 jt7).bind fun t189 => ((keywayref03_Text.f kj15 jt7).bind fun t190 => (if t189.toList = t190.toList then ((wire_Fixed.f kj15 a1 a2).bind fun t191 => ((keywayref03_Fixed.f kj15 a1 ji9).bind fun t192 => (if t191.toList = t192.toList then (if t182.toList = jt7.toList then (if t185 = x12_15 then ((wire_Reader_End.f kj15 t186 t187).bind fun bt193 => (some (bt193.1 == 0))) else (some false)) else (some false)) else (some false)))) else (some false)))) else (some false)) = some r := H
            have A23 := Aside0.mk A230
            clear A230
            by_cases c24 : t188 = true
            · subst c24
              have H1 : ((wire_Text.f kj15 jt7).bind fun t189 => ((keywayref03_Text.f kj15 jt7).bind fun t190 => (if t189.toList = t190.toList then ((wire_Fixed.f kj15 a1 a2).bind fun t191 => ((keywayref03_Fixed.f kj15 a1 ji9).bind fun t192 => (if t191.toList = t192.toList then (if t182.toList = jt7.toList then (if t185 = x12_15 then ((wire_Reader_End.f kj15 t186 t187).bind fun bt193 => (some (bt193.1 == 0))) else (some false)) else (some false)) else (some false)))) else (some false)))) = some r := by rw [if_pos rfl] at H; exact H
              clear H
              have H := H1
              clear H1
              replace H := Option.bind_eq_some_iff.mp H
              obtain ⟨t189, A250, H⟩ := H
              replace H : ((keywayref03_Text.f kj15 jt7).bind fun t190 => (if t189.toList = t190.toList then ((wire_Fixed.f kj15 a1 a2).bind fun t191 => ((keywayref03_Fixed.f kj15 a1 ji9).bind fun t192 => (if t191.toList = t192.toList then (if t182.toList = jt7.toList then (if t185 = x12_15 then ((wire_Reader_End.f kj15 t186 t187).bind fun bt193 => (some (bt193.1 == 0))) else (some false)) else (some false)) else (some false)))) else (some false))) = some r := H
              have A25 := Aside0.mk A250
              clear A250
              replace H := Option.bind_eq_some_iff.mp H
              obtain ⟨t190, A260, H⟩ := H
              replace H : (if t189.toList = t190.toList then ((wire_Fixed.f kj15 a1 a2).bind fun t191 => ((keywayref03_Fixed.f kj15 a1 ji9).bind fun t192 => (if t191.toList = t192.toList then (if t182.toList = jt7.toList then (if t185 = x12_15 then ((wire_Reader_End.f kj15 t186 t187).bind fun bt193 => (some (bt193.1 == 0))) else (some false)) else (some false)) else (some false)))) else (some false)) = some r := H
              have A26 := Aside0.mk A260
              clear A260
              by_cases c27 : t189.toList = t190.toList
              · rw [if_pos c27] at H
                have c27b0 : (t189.toList == t190.toList) = true := beq_iff_eq.mpr c27
                have c27b1 : (t189.toList != t190.toList) = false := bne_eq_false_iff_eq.mpr c27
                clear c27
                replace H := Option.bind_eq_some_iff.mp H
                obtain ⟨t191, A280, H⟩ := H
                replace H : ((keywayref03_Fixed.f kj15 a1 ji9).bind fun t192 => (if t191.toList = t192.toList then (if t182.toList = jt7.toList then (if t185 = x12_15 then ((wire_Reader_End.f kj15 t186 t187).bind fun bt193 => (some (bt193.1 == 0))) else (some false)) else (some false)) else (some false))) = some r := H
                have A28 := Aside0.mk A280
                clear A280
                replace H := Option.bind_eq_some_iff.mp H
                obtain ⟨t192, A290, H⟩ := H
                replace H : (if t191.toList = t192.toList then (if t182.toList = jt7.toList then (if t185 = x12_15 then ((wire_Reader_End.f kj15 t186 t187).bind fun bt193 => (some (bt193.1 == 0))) else (some false)) else (some false)) else (some false)) = some r := H
                have A29 := Aside0.mk A290
                clear A290
                by_cases c30 : t191.toList = t192.toList
                · rw [if_pos c30] at H
                  have c30b0 : (t191.toList == t192.toList) = true := beq_iff_eq.mpr c30
                  have c30b1 : (t191.toList != t192.toList) = false := bne_eq_false_iff_eq.mpr c30
                  clear c30
                  by_cases c31 : t182.toList = jt7.toList
                  · rw [if_pos c31] at H
                    have c31b0 : (t182.toList == jt7.toList) = true := beq_iff_eq.mpr c31
                    have c31b1 : (t182.toList != jt7.toList) = false := bne_eq_false_iff_eq.mpr c31
                    clear c31
                    by_cases c32 : t185 = x12_15
                    · rw [if_pos c32] at H
                      have c32b0 : (t185 == x12_15) = true := beq_iff_eq.mpr c32
                      have c32b1 : (t185 != x12_15) = false := bne_eq_false_iff_eq.mpr c32
                      clear c32
                      replace H := Option.bind_eq_some_iff.mp H
                      obtain ⟨⟨t193, t194, t195⟩, A330, H⟩ := H
                      replace H : (some (t193 == 0)) = some r := H
                      have A33 := Aside0.mk A330
                      clear A330
                      obtain rfl := Option.some.inj H
                      go_wp2_with (first | ((with_reducible refine gate_callee (f := 12) rfl ?_); refine goesL_ (some 43) rfl rfl Try.func12 (by kernel_rfl) rfl #[] rfl (by (try simp only [List.map_toArray, List.map_cons, List.map_nil]); first | done | rfl | (simp only [List.length_drop, List.length_take]; rfl)) ?_; (with_reducible refine (keywaylaw03_awake.calls kj15  true _ A23.out).mono ?_); rintro e w34 ⟨rfl, hb⟩; refine ⟨_, rfl, ?_⟩; have n0_ := Aside0.mk (IsS56.below (by repeat (first | (with_reducible first | exact HI181.out | apply IsS56.alloc | apply IsS56.drewN | apply IsS56.drew | apply IsS56.set_0 | apply IsS56.set_1) | exact HI181.out)) hb); have n1_ := Aside0.mk (below_step (by repeat (first | (with_reducible first | exact HB.out | apply below_alloc | apply pw_below_drewN | apply below_drew1 | refine below_set ?_ (IsS56.ge HI181.out)) | exact HB.out)) hb); clear HI181; clear HB; have HI181 := n0_; have HB := n1_; clear n0_ n1_; (try clear hb); (try clear hb2); (try clear hk); (try clear hi)) | (go_at_call 25; (with_reducible refine (wire_Text.calls kj15 jt7 t189 _ A25.out).mono ?_); rintro e w35 ⟨rfl, hb⟩; have n0_ := Aside0.mk (IsS56.below (by repeat (first | (with_reducible first | exact HI181.out | apply IsS56.alloc | apply IsS56.drewN | apply IsS56.drew | apply IsS56.set_0 | apply IsS56.set_1) | exact HI181.out)) hb); have n1_ := Aside0.mk (below_step (by repeat (first | (with_reducible first | exact HB.out | apply below_alloc | apply pw_below_drewN | apply below_drew1 | refine below_set ?_ (IsS56.ge HI181.out)) | exact HB.out)) hb); clear HI181; clear HB; have HI181 := n0_; have HB := n1_; clear n0_ n1_; (try clear hb); (try clear hb2); (try clear hk); (try clear hi)) | (go_at_call 27; (with_reducible refine (keywayref03_Text.calls kj15 jt7 t190 _ A26.out).mono ?_); rintro e w36 ⟨rfl, hb⟩; have n0_ := Aside0.mk (IsS56.below (by repeat (first | (with_reducible first | exact HI181.out | apply IsS56.alloc | apply IsS56.drewN | apply IsS56.drew | apply IsS56.set_0 | apply IsS56.set_1) | exact HI181.out)) hb); have n1_ := Aside0.mk (below_step (by repeat (first | (with_reducible first | exact HB.out | apply below_alloc | apply pw_below_drewN | apply below_drew1 | refine below_set ?_ (IsS56.ge HI181.out)) | exact HB.out)) hb); clear HI181; clear HB; have HI181 := n0_; have HB := n1_; clear n0_ n1_; (try clear hb); (try clear hb2); (try clear hk); (try clear hi)) | (go_at_call 26; (with_reducible refine (wire_Fixed.calls kj15 a1 a2 t191 _ A28.out).mono ?_); rintro e w37 ⟨rfl, hb⟩; have n0_ := Aside0.mk (IsS56.below (by repeat (first | (with_reducible first | exact HI181.out | apply IsS56.alloc | apply IsS56.drewN | apply IsS56.drew | apply IsS56.set_0 | apply IsS56.set_1) | exact HI181.out)) hb); have n1_ := Aside0.mk (below_step (by repeat (first | (with_reducible first | exact HB.out | apply below_alloc | apply pw_below_drewN | apply below_drew1 | refine below_set ?_ (IsS56.ge HI181.out)) | exact HB.out)) hb); clear HI181; clear HB; have HI181 := n0_; have HB := n1_; clear n0_ n1_; (try clear hb); (try clear hb2); (try clear hk); (try clear hi)) | (go_at_call 28; (with_reducible refine (keywayref03_Fixed.calls kj15 a1 ji9 t192 _ A29.out).mono ?_); rintro e w38 ⟨rfl, hb⟩; have n0_ := Aside0.mk (IsS56.below (by repeat (first | (with_reducible first | exact HI181.out | apply IsS56.alloc | apply IsS56.drewN | apply IsS56.drew | apply IsS56.set_0 | apply IsS56.set_1) | exact HI181.out)) hb); have n1_ := Aside0.mk (below_step (by repeat (first | (with_reducible first | exact HB.out | apply below_alloc | apply pw_below_drewN | apply below_drew1 | refine below_set ?_ (IsS56.ge HI181.out)) | exact HB.out)) hb); clear HI181; clear HB; have HI181 := n0_; have HB := n1_; clear n0_ n1_; (try clear hb); (try clear hb2); (try clear hk); (try clear hi)) | (go_at_call 20; (with_reducible refine (wire_Reader_End.calls kj15 g181 t186 t187 t193 t194 t195 w _ ?side1 ?side2 A33.out).mono ?_); (case side1 => repeat (first | (with_reducible first | exact HI181.out | apply IsS56.alloc | apply IsS56.drewN | apply IsS56.drew | apply IsS56.set_0 | apply IsS56.set_1) | exact HI181.out)); (case side2 => repeat (first | (with_reducible first | exact HB.out | apply below_alloc | apply pw_below_drewN | apply below_drew1 | refine below_set ?_ (IsS56.ge HI181.out)) | exact HB.out)); rintro e w39 ⟨rfl, hi, hb, hk⟩; have n0_ := Aside0.mk (hb); have n1_ := Aside0.mk (hi); clear HB; clear HI181; have HB := n0_; have HI181 := n1_; clear n0_ n1_; (try clear hb); (try clear hb2); (try clear hk); (try clear hi)))
                      go_ret
                      exact ⟨by first | rfl | (simp [errW_none, errW_some] <;> rfl) | (simp only [← hji4, ← hjt7, ← hji8, ← hji9]; first | rfl | (simp [errW_none, errW_some] <;> rfl)) | (simp [*, errW_none, errW_some] <;> rfl), by repeat (first | (with_reducible first | exact HB.out | apply below_alloc | apply pw_below_drewN | apply below_drew1 | refine below_set ?_ (IsS56.ge HI181.out)) | exact HB.out)⟩
                    · rw [if_neg c32] at H
                      have c32b0 : (t185 == x12_15) = false := beq_eq_false_iff_ne.mpr c32
                      have c32b1 : (t185 != x12_15) = true := bne_iff_ne.mpr c32
                      obtain rfl := Option.some.inj H
                      go_wp2_with (first | ((with_reducible refine gate_callee (f := 12) rfl ?_); refine goesL_ (some 43) rfl rfl Try.func12 (by kernel_rfl) rfl #[] rfl (by (try simp only [List.map_toArray, List.map_cons, List.map_nil]); first | done | rfl | (simp only [List.length_drop, List.length_take]; rfl)) ?_; (with_reducible refine (keywaylaw03_awake.calls kj15  true _ A23.out).mono ?_); rintro e w40 ⟨rfl, hb⟩; refine ⟨_, rfl, ?_⟩; have n0_ := Aside0.mk (IsS56.below (by repeat (first | (with_reducible first | exact HI181.out | apply IsS56.alloc | apply IsS56.drewN | apply IsS56.drew | apply IsS56.set_0 | apply IsS56.set_1) | exact HI181.out)) hb); have n1_ := Aside0.mk (below_step (by repeat (first | (with_reducible first | exact HB.out | apply below_alloc | apply pw_below_drewN | apply below_drew1 | refine below_set ?_ (IsS56.ge HI181.out)) | exact HB.out)) hb); clear HI181; clear HB; have HI181 := n0_; have HB := n1_; clear n0_ n1_; (try clear hb); (try clear hb2); (try clear hk); (try clear hi)) | (go_at_call 25; (with_reducible refine (wire_Text.calls kj15 jt7 t189 _ A25.out).mono ?_); rintro e w41 ⟨rfl, hb⟩; have n0_ := Aside0.mk (IsS56.below (by repeat (first | (with_reducible first | exact HI181.out | apply IsS56.alloc | apply IsS56.drewN | apply IsS56.drew | apply IsS56.set_0 | apply IsS56.set_1) | exact HI181.out)) hb); have n1_ := Aside0.mk (below_step (by repeat (first | (with_reducible first | exact HB.out | apply below_alloc | apply pw_below_drewN | apply below_drew1 | refine below_set ?_ (IsS56.ge HI181.out)) | exact HB.out)) hb); clear HI181; clear HB; have HI181 := n0_; have HB := n1_; clear n0_ n1_; (try clear hb); (try clear hb2); (try clear hk); (try clear hi)) | (go_at_call 27; (with_reducible refine (keywayref03_Text.calls kj15 jt7 t190 _ A26.out).mono ?_); rintro e w42 ⟨rfl, hb⟩; have n0_ := Aside0.mk (IsS56.below (by repeat (first | (with_reducible first | exact HI181.out | apply IsS56.alloc | apply IsS56.drewN | apply IsS56.drew | apply IsS56.set_0 | apply IsS56.set_1) | exact HI181.out)) hb); have n1_ := Aside0.mk (below_step (by repeat (first | (with_reducible first | exact HB.out | apply below_alloc | apply pw_below_drewN | apply below_drew1 | refine below_set ?_ (IsS56.ge HI181.out)) | exact HB.out)) hb); clear HI181; clear HB; have HI181 := n0_; have HB := n1_; clear n0_ n1_; (try clear hb); (try clear hb2); (try clear hk); (try clear hi)) | (go_at_call 26; (with_reducible refine (wire_Fixed.calls kj15 a1 a2 t191 _ A28.out).mono ?_); rintro e w43 ⟨rfl, hb⟩; have n0_ := Aside0.mk (IsS56.below (by repeat (first | (with_reducible first | exact HI181.out | apply IsS56.alloc | apply IsS56.drewN | apply IsS56.drew | apply IsS56.set_0 | apply IsS56.set_1) | exact HI181.out)) hb); have n1_ := Aside0.mk (below_step (by repeat (first | (with_reducible first | exact HB.out | apply below_alloc | apply pw_below_drewN | apply below_drew1 | refine below_set ?_ (IsS56.ge HI181.out)) | exact HB.out)) hb); clear HI181; clear HB; have HI181 := n0_; have HB := n1_; clear n0_ n1_; (try clear hb); (try clear hb2); (try clear hk); (try clear hi)) | (go_at_call 28; (with_reducible refine (keywayref03_Fixed.calls kj15 a1 ji9 t192 _ A29.out).mono ?_); rintro e w44 ⟨rfl, hb⟩; have n0_ := Aside0.mk (IsS56.below (by repeat (first | (with_reducible first | exact HI181.out | apply IsS56.alloc | apply IsS56.drewN | apply IsS56.drew | apply IsS56.set_0 | apply IsS56.set_1) | exact HI181.out)) hb); have n1_ := Aside0.mk (below_step (by repeat (first | (with_reducible first | exact HB.out | apply below_alloc | apply pw_below_drewN | apply below_drew1 | refine below_set ?_ (IsS56.ge HI181.out)) | exact HB.out)) hb); clear HI181; clear HB; have HI181 := n0_; have HB := n1_; clear n0_ n1_; (try clear hb); (try clear hb2); (try clear hk); (try clear hi)))
                      go_ret
                      exact ⟨by first | rfl | (simp [errW_none, errW_some] <;> rfl) | (simp only [← hji4, ← hjt7, ← hji8, ← hji9]; first | rfl | (simp [errW_none, errW_some] <;> rfl)) | (simp [*, errW_none, errW_some] <;> rfl), by repeat (first | (with_reducible first | exact HB.out | apply below_alloc | apply pw_below_drewN | apply below_drew1 | refine below_set ?_ (IsS56.ge HI181.out)) | exact HB.out)⟩
                  · rw [if_neg c31] at H
                    have c31b0 : (t182.toList == jt7.toList) = false := beq_eq_false_iff_ne.mpr c31
                    have c31b1 : (t182.toList != jt7.toList) = true := bne_iff_ne.mpr c31
                    obtain rfl := Option.some.inj H
                    go_wp2_with (first | ((with_reducible refine gate_callee (f := 12) rfl ?_); refine goesL_ (some 43) rfl rfl Try.func12 (by kernel_rfl) rfl #[] rfl (by (try simp only [List.map_toArray, List.map_cons, List.map_nil]); first | done | rfl | (simp only [List.length_drop, List.length_take]; rfl)) ?_; (with_reducible refine (keywaylaw03_awake.calls kj15  true _ A23.out).mono ?_); rintro e w45 ⟨rfl, hb⟩; refine ⟨_, rfl, ?_⟩; have n0_ := Aside0.mk (IsS56.below (by repeat (first | (with_reducible first | exact HI181.out | apply IsS56.alloc | apply IsS56.drewN | apply IsS56.drew | apply IsS56.set_0 | apply IsS56.set_1) | exact HI181.out)) hb); have n1_ := Aside0.mk (below_step (by repeat (first | (with_reducible first | exact HB.out | apply below_alloc | apply pw_below_drewN | apply below_drew1 | refine below_set ?_ (IsS56.ge HI181.out)) | exact HB.out)) hb); clear HI181; clear HB; have HI181 := n0_; have HB := n1_; clear n0_ n1_; (try clear hb); (try clear hb2); (try clear hk); (try clear hi)) | (go_at_call 25; (with_reducible refine (wire_Text.calls kj15 jt7 t189 _ A25.out).mono ?_); rintro e w46 ⟨rfl, hb⟩; have n0_ := Aside0.mk (IsS56.below (by repeat (first | (with_reducible first | exact HI181.out | apply IsS56.alloc | apply IsS56.drewN | apply IsS56.drew | apply IsS56.set_0 | apply IsS56.set_1) | exact HI181.out)) hb); have n1_ := Aside0.mk (below_step (by repeat (first | (with_reducible first | exact HB.out | apply below_alloc | apply pw_below_drewN | apply below_drew1 | refine below_set ?_ (IsS56.ge HI181.out)) | exact HB.out)) hb); clear HI181; clear HB; have HI181 := n0_; have HB := n1_; clear n0_ n1_; (try clear hb); (try clear hb2); (try clear hk); (try clear hi)) | (go_at_call 27; (with_reducible refine (keywayref03_Text.calls kj15 jt7 t190 _ A26.out).mono ?_); rintro e w47 ⟨rfl, hb⟩; have n0_ := Aside0.mk (IsS56.below (by repeat (first | (with_reducible first | exact HI181.out | apply IsS56.alloc | apply IsS56.drewN | apply IsS56.drew | apply IsS56.set_0 | apply IsS56.set_1) | exact HI181.out)) hb); have n1_ := Aside0.mk (below_step (by repeat (first | (with_reducible first | exact HB.out | apply below_alloc | apply pw_below_drewN | apply below_drew1 | refine below_set ?_ (IsS56.ge HI181.out)) | exact HB.out)) hb); clear HI181; clear HB; have HI181 := n0_; have HB := n1_; clear n0_ n1_; (try clear hb); (try clear hb2); (try clear hk); (try clear hi)) | (go_at_call 26; (with_reducible refine (wire_Fixed.calls kj15 a1 a2 t191 _ A28.out).mono ?_); rintro e w48 ⟨rfl, hb⟩; have n0_ := Aside0.mk (IsS56.below (by repeat (first | (with_reducible first | exact HI181.out | apply IsS56.alloc | apply IsS56.drewN | apply IsS56.drew | apply IsS56.set_0 | apply IsS56.set_1) | exact HI181.out)) hb); have n1_ := Aside0.mk (below_step (by repeat (first | (with_reducible first | exact HB.out | apply below_alloc | apply pw_below_drewN | apply below_drew1 | refine below_set ?_ (IsS56.ge HI181.out)) | exact HB.out)) hb); clear HI181; clear HB; have HI181 := n0_; have HB := n1_; clear n0_ n1_; (try clear hb); (try clear hb2); (try clear hk); (try clear hi)) | (go_at_call 28; (with_reducible refine (keywayref03_Fixed.calls kj15 a1 ji9 t192 _ A29.out).mono ?_); rintro e w49 ⟨rfl, hb⟩; have n0_ := Aside0.mk (IsS56.below (by repeat (first | (with_reducible first | exact HI181.out | apply IsS56.alloc | apply IsS56.drewN | apply IsS56.drew | apply IsS56.set_0 | apply IsS56.set_1) | exact HI181.out)) hb); have n1_ := Aside0.mk (below_step (by repeat (first | (with_reducible first | exact HB.out | apply below_alloc | apply pw_below_drewN | apply below_drew1 | refine below_set ?_ (IsS56.ge HI181.out)) | exact HB.out)) hb); clear HI181; clear HB; have HI181 := n0_; have HB := n1_; clear n0_ n1_; (try clear hb); (try clear hb2); (try clear hk); (try clear hi)))
                    go_ret
                    exact ⟨by first | rfl | (simp [errW_none, errW_some] <;> rfl) | (simp only [← hji4, ← hjt7, ← hji8, ← hji9]; first | rfl | (simp [errW_none, errW_some] <;> rfl)) | (simp [*, errW_none, errW_some] <;> rfl), by repeat (first | (with_reducible first | exact HB.out | apply below_alloc | apply pw_below_drewN | apply below_drew1 | refine below_set ?_ (IsS56.ge HI181.out)) | exact HB.out)⟩
                · rw [if_neg c30] at H
                  have c30b0 : (t191.toList == t192.toList) = false := beq_eq_false_iff_ne.mpr c30
                  have c30b1 : (t191.toList != t192.toList) = true := bne_iff_ne.mpr c30
                  obtain rfl := Option.some.inj H
                  go_wp2_with (first | ((with_reducible refine gate_callee (f := 12) rfl ?_); refine goesL_ (some 43) rfl rfl Try.func12 (by kernel_rfl) rfl #[] rfl (by (try simp only [List.map_toArray, List.map_cons, List.map_nil]); first | done | rfl | (simp only [List.length_drop, List.length_take]; rfl)) ?_; (with_reducible refine (keywaylaw03_awake.calls kj15  true _ A23.out).mono ?_); rintro e w50 ⟨rfl, hb⟩; refine ⟨_, rfl, ?_⟩; have n0_ := Aside0.mk (IsS56.below (by repeat (first | (with_reducible first | exact HI181.out | apply IsS56.alloc | apply IsS56.drewN | apply IsS56.drew | apply IsS56.set_0 | apply IsS56.set_1) | exact HI181.out)) hb); have n1_ := Aside0.mk (below_step (by repeat (first | (with_reducible first | exact HB.out | apply below_alloc | apply pw_below_drewN | apply below_drew1 | refine below_set ?_ (IsS56.ge HI181.out)) | exact HB.out)) hb); clear HI181; clear HB; have HI181 := n0_; have HB := n1_; clear n0_ n1_; (try clear hb); (try clear hb2); (try clear hk); (try clear hi)) | (go_at_call 25; (with_reducible refine (wire_Text.calls kj15 jt7 t189 _ A25.out).mono ?_); rintro e w51 ⟨rfl, hb⟩; have n0_ := Aside0.mk (IsS56.below (by repeat (first | (with_reducible first | exact HI181.out | apply IsS56.alloc | apply IsS56.drewN | apply IsS56.drew | apply IsS56.set_0 | apply IsS56.set_1) | exact HI181.out)) hb); have n1_ := Aside0.mk (below_step (by repeat (first | (with_reducible first | exact HB.out | apply below_alloc | apply pw_below_drewN | apply below_drew1 | refine below_set ?_ (IsS56.ge HI181.out)) | exact HB.out)) hb); clear HI181; clear HB; have HI181 := n0_; have HB := n1_; clear n0_ n1_; (try clear hb); (try clear hb2); (try clear hk); (try clear hi)) | (go_at_call 27; (with_reducible refine (keywayref03_Text.calls kj15 jt7 t190 _ A26.out).mono ?_); rintro e w52 ⟨rfl, hb⟩; have n0_ := Aside0.mk (IsS56.below (by repeat (first | (with_reducible first | exact HI181.out | apply IsS56.alloc | apply IsS56.drewN | apply IsS56.drew | apply IsS56.set_0 | apply IsS56.set_1) | exact HI181.out)) hb); have n1_ := Aside0.mk (below_step (by repeat (first | (with_reducible first | exact HB.out | apply below_alloc | apply pw_below_drewN | apply below_drew1 | refine below_set ?_ (IsS56.ge HI181.out)) | exact HB.out)) hb); clear HI181; clear HB; have HI181 := n0_; have HB := n1_; clear n0_ n1_; (try clear hb); (try clear hb2); (try clear hk); (try clear hi)) | (go_at_call 26; (with_reducible refine (wire_Fixed.calls kj15 a1 a2 t191 _ A28.out).mono ?_); rintro e w53 ⟨rfl, hb⟩; have n0_ := Aside0.mk (IsS56.below (by repeat (first | (with_reducible first | exact HI181.out | apply IsS56.alloc | apply IsS56.drewN | apply IsS56.drew | apply IsS56.set_0 | apply IsS56.set_1) | exact HI181.out)) hb); have n1_ := Aside0.mk (below_step (by repeat (first | (with_reducible first | exact HB.out | apply below_alloc | apply pw_below_drewN | apply below_drew1 | refine below_set ?_ (IsS56.ge HI181.out)) | exact HB.out)) hb); clear HI181; clear HB; have HI181 := n0_; have HB := n1_; clear n0_ n1_; (try clear hb); (try clear hb2); (try clear hk); (try clear hi)) | (go_at_call 28; (with_reducible refine (keywayref03_Fixed.calls kj15 a1 ji9 t192 _ A29.out).mono ?_); rintro e w54 ⟨rfl, hb⟩; have n0_ := Aside0.mk (IsS56.below (by repeat (first | (with_reducible first | exact HI181.out | apply IsS56.alloc | apply IsS56.drewN | apply IsS56.drew | apply IsS56.set_0 | apply IsS56.set_1) | exact HI181.out)) hb); have n1_ := Aside0.mk (below_step (by repeat (first | (with_reducible first | exact HB.out | apply below_alloc | apply pw_below_drewN | apply below_drew1 | refine below_set ?_ (IsS56.ge HI181.out)) | exact HB.out)) hb); clear HI181; clear HB; have HI181 := n0_; have HB := n1_; clear n0_ n1_; (try clear hb); (try clear hb2); (try clear hk); (try clear hi)))
                  go_ret
                  exact ⟨by first | rfl | (simp [errW_none, errW_some] <;> rfl) | (simp only [← hji4, ← hjt7, ← hji8, ← hji9]; first | rfl | (simp [errW_none, errW_some] <;> rfl)) | (simp [*, errW_none, errW_some] <;> rfl), by repeat (first | (with_reducible first | exact HB.out | apply below_alloc | apply pw_below_drewN | apply below_drew1 | refine below_set ?_ (IsS56.ge HI181.out)) | exact HB.out)⟩
              · rw [if_neg c27] at H
                have c27b0 : (t189.toList == t190.toList) = false := beq_eq_false_iff_ne.mpr c27
                have c27b1 : (t189.toList != t190.toList) = true := bne_iff_ne.mpr c27
                obtain rfl := Option.some.inj H
                go_wp2_with (first | ((with_reducible refine gate_callee (f := 12) rfl ?_); refine goesL_ (some 43) rfl rfl Try.func12 (by kernel_rfl) rfl #[] rfl (by (try simp only [List.map_toArray, List.map_cons, List.map_nil]); first | done | rfl | (simp only [List.length_drop, List.length_take]; rfl)) ?_; (with_reducible refine (keywaylaw03_awake.calls kj15  true _ A23.out).mono ?_); rintro e w55 ⟨rfl, hb⟩; refine ⟨_, rfl, ?_⟩; have n0_ := Aside0.mk (IsS56.below (by repeat (first | (with_reducible first | exact HI181.out | apply IsS56.alloc | apply IsS56.drewN | apply IsS56.drew | apply IsS56.set_0 | apply IsS56.set_1) | exact HI181.out)) hb); have n1_ := Aside0.mk (below_step (by repeat (first | (with_reducible first | exact HB.out | apply below_alloc | apply pw_below_drewN | apply below_drew1 | refine below_set ?_ (IsS56.ge HI181.out)) | exact HB.out)) hb); clear HI181; clear HB; have HI181 := n0_; have HB := n1_; clear n0_ n1_; (try clear hb); (try clear hb2); (try clear hk); (try clear hi)) | (go_at_call 25; (with_reducible refine (wire_Text.calls kj15 jt7 t189 _ A25.out).mono ?_); rintro e w56 ⟨rfl, hb⟩; have n0_ := Aside0.mk (IsS56.below (by repeat (first | (with_reducible first | exact HI181.out | apply IsS56.alloc | apply IsS56.drewN | apply IsS56.drew | apply IsS56.set_0 | apply IsS56.set_1) | exact HI181.out)) hb); have n1_ := Aside0.mk (below_step (by repeat (first | (with_reducible first | exact HB.out | apply below_alloc | apply pw_below_drewN | apply below_drew1 | refine below_set ?_ (IsS56.ge HI181.out)) | exact HB.out)) hb); clear HI181; clear HB; have HI181 := n0_; have HB := n1_; clear n0_ n1_; (try clear hb); (try clear hb2); (try clear hk); (try clear hi)) | (go_at_call 27; (with_reducible refine (keywayref03_Text.calls kj15 jt7 t190 _ A26.out).mono ?_); rintro e w57 ⟨rfl, hb⟩; have n0_ := Aside0.mk (IsS56.below (by repeat (first | (with_reducible first | exact HI181.out | apply IsS56.alloc | apply IsS56.drewN | apply IsS56.drew | apply IsS56.set_0 | apply IsS56.set_1) | exact HI181.out)) hb); have n1_ := Aside0.mk (below_step (by repeat (first | (with_reducible first | exact HB.out | apply below_alloc | apply pw_below_drewN | apply below_drew1 | refine below_set ?_ (IsS56.ge HI181.out)) | exact HB.out)) hb); clear HI181; clear HB; have HI181 := n0_; have HB := n1_; clear n0_ n1_; (try clear hb); (try clear hb2); (try clear hk); (try clear hi)))
                go_ret
                exact ⟨by first | rfl | (simp [errW_none, errW_some] <;> rfl) | (simp only [← hji4, ← hjt7, ← hji8, ← hji9]; first | rfl | (simp [errW_none, errW_some] <;> rfl)) | (simp [*, errW_none, errW_some] <;> rfl), by repeat (first | (with_reducible first | exact HB.out | apply below_alloc | apply pw_below_drewN | apply below_drew1 | refine below_set ?_ (IsS56.ge HI181.out)) | exact HB.out)⟩
            · replace c24 := Bool.eq_false_iff.mpr c24
              subst c24
              have H1 : (some false) = some r := by rw [if_neg (show ¬ (false = true) by decide)] at H; exact H
              clear H
              have H := H1
              clear H1
              obtain rfl := Option.some.inj H
              go_wp2_with (first | ((with_reducible refine gate_callee (f := 12) rfl ?_); refine goesL_ (some 43) rfl rfl Try.func12 (by kernel_rfl) rfl #[] rfl (by (try simp only [List.map_toArray, List.map_cons, List.map_nil]); first | done | rfl | (simp only [List.length_drop, List.length_take]; rfl)) ?_; (with_reducible refine (keywaylaw03_awake.calls kj15  false _ A23.out).mono ?_); rintro e w58 ⟨rfl, hb⟩; refine ⟨_, rfl, ?_⟩; have n0_ := Aside0.mk (IsS56.below (by repeat (first | (with_reducible first | exact HI181.out | apply IsS56.alloc | apply IsS56.drewN | apply IsS56.drew | apply IsS56.set_0 | apply IsS56.set_1) | exact HI181.out)) hb); have n1_ := Aside0.mk (below_step (by repeat (first | (with_reducible first | exact HB.out | apply below_alloc | apply pw_below_drewN | apply below_drew1 | refine below_set ?_ (IsS56.ge HI181.out)) | exact HB.out)) hb); clear HI181; clear HB; have HI181 := n0_; have HB := n1_; clear n0_ n1_; (try clear hb); (try clear hb2); (try clear hk); (try clear hi)))
              go_ret
              exact ⟨by first | rfl | (simp [errW_none, errW_some] <;> rfl) | (simp only [← hji4, ← hjt7, ← hji8, ← hji9]; first | rfl | (simp [errW_none, errW_some] <;> rfl)) | (simp [*, errW_none, errW_some] <;> rfl), by repeat (first | (with_reducible first | exact HB.out | apply below_alloc | apply pw_below_drewN | apply below_drew1 | refine below_set ?_ (IsS56.ge HI181.out)) | exact HB.out)⟩
      · rw [if_neg c12] at H
        exact absurd H (by simp)
    · rw [if_neg c6] at H
      exact absurd H (by simp)
  · rw [if_neg c5] at H
    exact absurd H (by simp)

/-- THE ONE PURE STATEMENT of keywaylaw03_WireTexts: yours. -/
def keywaylaw03_WireTexts.Pure : Prop := ∀ (a0 : ByteArray) (a1 : Int) (a2 : Int), a0.size ≤ 140737488351232 → (Lit.int .u64 a1).wf = true → (Lit.int .i64 a2).wf = true → ∃ k, keywaylaw03_WireTexts.f k a0 a1 a2 = some true
theorem keywaylaw03_WireTexts.walk (P : keywaylaw03_WireTexts.Pure) (a0 : ByteArray) (a1 : Int) (a2 : Int) (w : World) (w0 : a0.size ≤ 140737488351232) (w1 : (Lit.int .u64 a1).wf = true) (w2 : (Lit.int .i64 a2).wf = true) :
    Calls Try.prog 7 #[.string a0, .int .u64 a1, .int .i64 a2] w fun e w' => e = .returned (.bool true) ∧ Below w.heap.size w w' := by
  obtain ⟨k, h⟩ := P a0 a1 a2 w0 w1 w2
  refine (keywaylaw03_WireTexts.calls k a0 a1 a2 true w h).mono ?_
  rintro e w' ⟨rfl, hd⟩
  exact ⟨rfl, hd⟩

end Go.Proofs.Ytnejefipkmnioaa.QWireTexts
