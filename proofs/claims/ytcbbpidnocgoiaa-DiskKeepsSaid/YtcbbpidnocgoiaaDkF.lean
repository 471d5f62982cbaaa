/- Disks: writes that go well. -/
import Derived.Test.YtcbbpidnocgoiaaDkE
namespace Go.Proofs.Ytcbbpidnocgoiaa.Dk
open Go Go.RowKit Go.Proofs.Ytcbbpidnocgoiaa.Eng
set_option linter.unusedVariables false
set_option linter.unusedSimpArgs false
set_option maxRecDepth 20000
theorem all1 {α : Type} {f : α → Bool} {a0 : α} (h0 : f a0 = true) : ([a0].all f) = true := by simp [h0]
theorem map1 {α β : Type} {f : α → β} {a0 : α} {b0 : β} (h0 : f a0 = b0) : [a0].map f = [b0] := by simp [h0]
theorem zip1 {ρ : Nat → Nat} {i0 : Nat} {a0 b0 : OS} (h0 : OS.ren ρ a0 = b0) : frz [] ++ zipH ρ [i0] [a0] = [(i0, b0)] := by simp [frz, zipH, h0]
theorem all2 {α : Type} {f : α → Bool} {a0 a1 : α} (h0 : f a0 = true) (h1 : f a1 = true) : ([a0, a1].all f) = true := by simp [h0, h1]
theorem map2 {α β : Type} {f : α → β} {a0 a1 : α} {b0 b1 : β} (h0 : f a0 = b0) (h1 : f a1 = b1) : [a0, a1].map f = [b0, b1] := by simp [h0, h1]
theorem zip2 {ρ : Nat → Nat} {i0 i1 : Nat} {a0 a1 b0 b1 : OS} (h0 : OS.ren ρ a0 = b0) (h1 : OS.ren ρ a1 = b1) : frz [] ++ zipH ρ [i0, i1] [a0, a1] = [(i0, b0), (i1, b1)] := by simp [frz, zipH, h0, h1]
theorem all3 {α : Type} {f : α → Bool} {a0 a1 a2 : α} (h0 : f a0 = true) (h1 : f a1 = true) (h2 : f a2 = true) : ([a0, a1, a2].all f) = true := by simp [h0, h1, h2]
theorem map3 {α β : Type} {f : α → β} {a0 a1 a2 : α} {b0 b1 b2 : β} (h0 : f a0 = b0) (h1 : f a1 = b1) (h2 : f a2 = b2) : [a0, a1, a2].map f = [b0, b1, b2] := by simp [h0, h1, h2]
theorem zip3 {ρ : Nat → Nat} {i0 i1 i2 : Nat} {a0 a1 a2 b0 b1 b2 : OS} (h0 : OS.ren ρ a0 = b0) (h1 : OS.ren ρ a1 = b1) (h2 : OS.ren ρ a2 = b2) : frz [] ++ zipH ρ [i0, i1, i2] [a0, a1, a2] = [(i0, b0), (i1, b1), (i2, b2)] := by simp [frz, zipH, h0, h1, h2]
theorem all4 {α : Type} {f : α → Bool} {a0 a1 a2 a3 : α} (h0 : f a0 = true) (h1 : f a1 = true) (h2 : f a2 = true) (h3 : f a3 = true) : ([a0, a1, a2, a3].all f) = true := by simp [h0, h1, h2, h3]
theorem map4 {α β : Type} {f : α → β} {a0 a1 a2 a3 : α} {b0 b1 b2 b3 : β} (h0 : f a0 = b0) (h1 : f a1 = b1) (h2 : f a2 = b2) (h3 : f a3 = b3) : [a0, a1, a2, a3].map f = [b0, b1, b2, b3] := by simp [h0, h1, h2, h3]
theorem zip4 {ρ : Nat → Nat} {i0 i1 i2 i3 : Nat} {a0 a1 a2 a3 b0 b1 b2 b3 : OS} (h0 : OS.ren ρ a0 = b0) (h1 : OS.ren ρ a1 = b1) (h2 : OS.ren ρ a2 = b2) (h3 : OS.ren ρ a3 = b3) : frz [] ++ zipH ρ [i0, i1, i2, i3] [a0, a1, a2, a3] = [(i0, b0), (i1, b1), (i2, b2), (i3, b3)] := by simp [frz, zipH, h0, h1, h2, h3]
theorem all5 {α : Type} {f : α → Bool} {a0 a1 a2 a3 a4 : α} (h0 : f a0 = true) (h1 : f a1 = true) (h2 : f a2 = true) (h3 : f a3 = true) (h4 : f a4 = true) : ([a0, a1, a2, a3, a4].all f) = true := by simp [h0, h1, h2, h3, h4]
theorem map5 {α β : Type} {f : α → β} {a0 a1 a2 a3 a4 : α} {b0 b1 b2 b3 b4 : β} (h0 : f a0 = b0) (h1 : f a1 = b1) (h2 : f a2 = b2) (h3 : f a3 = b3) (h4 : f a4 = b4) : [a0, a1, a2, a3, a4].map f = [b0, b1, b2, b3, b4] := by simp [h0, h1, h2, h3, h4]
theorem zip5 {ρ : Nat → Nat} {i0 i1 i2 i3 i4 : Nat} {a0 a1 a2 a3 a4 b0 b1 b2 b3 b4 : OS} (h0 : OS.ren ρ a0 = b0) (h1 : OS.ren ρ a1 = b1) (h2 : OS.ren ρ a2 = b2) (h3 : OS.ren ρ a3 = b3) (h4 : OS.ren ρ a4 = b4) : frz [] ++ zipH ρ [i0, i1, i2, i3, i4] [a0, a1, a2, a3, a4] = [(i0, b0), (i1, b1), (i2, b2), (i3, b3), (i4, b4)] := by simp [frz, zipH, h0, h1, h2, h3, h4]
theorem all6 {α : Type} {f : α → Bool} {a0 a1 a2 a3 a4 a5 : α} (h0 : f a0 = true) (h1 : f a1 = true) (h2 : f a2 = true) (h3 : f a3 = true) (h4 : f a4 = true) (h5 : f a5 = true) : ([a0, a1, a2, a3, a4, a5].all f) = true := by simp [h0, h1, h2, h3, h4, h5]
theorem map6 {α β : Type} {f : α → β} {a0 a1 a2 a3 a4 a5 : α} {b0 b1 b2 b3 b4 b5 : β} (h0 : f a0 = b0) (h1 : f a1 = b1) (h2 : f a2 = b2) (h3 : f a3 = b3) (h4 : f a4 = b4) (h5 : f a5 = b5) : [a0, a1, a2, a3, a4, a5].map f = [b0, b1, b2, b3, b4, b5] := by simp [h0, h1, h2, h3, h4, h5]
theorem zip6 {ρ : Nat → Nat} {i0 i1 i2 i3 i4 i5 : Nat} {a0 a1 a2 a3 a4 a5 b0 b1 b2 b3 b4 b5 : OS} (h0 : OS.ren ρ a0 = b0) (h1 : OS.ren ρ a1 = b1) (h2 : OS.ren ρ a2 = b2) (h3 : OS.ren ρ a3 = b3) (h4 : OS.ren ρ a4 = b4) (h5 : OS.ren ρ a5 = b5) : frz [] ++ zipH ρ [i0, i1, i2, i3, i4, i5] [a0, a1, a2, a3, a4, a5] = [(i0, b0), (i1, b1), (i2, b2), (i3, b3), (i4, b4), (i5, b5)] := by simp [frz, zipH, h0, h1, h2, h3, h4, h5]
theorem all7 {α : Type} {f : α → Bool} {a0 a1 a2 a3 a4 a5 a6 : α} (h0 : f a0 = true) (h1 : f a1 = true) (h2 : f a2 = true) (h3 : f a3 = true) (h4 : f a4 = true) (h5 : f a5 = true) (h6 : f a6 = true) : ([a0, a1, a2, a3, a4, a5, a6].all f) = true := by simp [h0, h1, h2, h3, h4, h5, h6]
theorem map7 {α β : Type} {f : α → β} {a0 a1 a2 a3 a4 a5 a6 : α} {b0 b1 b2 b3 b4 b5 b6 : β} (h0 : f a0 = b0) (h1 : f a1 = b1) (h2 : f a2 = b2) (h3 : f a3 = b3) (h4 : f a4 = b4) (h5 : f a5 = b5) (h6 : f a6 = b6) : [a0, a1, a2, a3, a4, a5, a6].map f = [b0, b1, b2, b3, b4, b5, b6] := by simp [h0, h1, h2, h3, h4, h5, h6]
theorem zip7 {ρ : Nat → Nat} {i0 i1 i2 i3 i4 i5 i6 : Nat} {a0 a1 a2 a3 a4 a5 a6 b0 b1 b2 b3 b4 b5 b6 : OS} (h0 : OS.ren ρ a0 = b0) (h1 : OS.ren ρ a1 = b1) (h2 : OS.ren ρ a2 = b2) (h3 : OS.ren ρ a3 = b3) (h4 : OS.ren ρ a4 = b4) (h5 : OS.ren ρ a5 = b5) (h6 : OS.ren ρ a6 = b6) : frz [] ++ zipH ρ [i0, i1, i2, i3, i4, i5, i6] [a0, a1, a2, a3, a4, a5, a6] = [(i0, b0), (i1, b1), (i2, b2), (i3, b3), (i4, b4), (i5, b5), (i6, b6)] := by simp [frz, zipH, h0, h1, h2, h3, h4, h5, h6]
theorem os_strs (ρ : Nat → Nat) (D : List ByteArray) : OS.ren ρ (.ob (strs D)) = .ob (strs D) := congrArg OS.ob (strs_ren ρ D)
theorem os_bools (ρ : Nat → Nat) (D : List Bool) : OS.ren ρ (.ob (bools D)) = .ob (bools D) := congrArg OS.ob (bools_ren ρ D)
theorem os_ints (ρ : Nat → Nat) (D : List Int) : OS.ren ρ (.ob (ints D)) = .ob (ints D) := congrArg OS.ob (ints_ren ρ D)
theorem alive_3 (w cu : SV) (acts all fails : Int) (A0 A1 : Ob) : HCall Try.prog 10 [dsk w cu acts all fails false, A0, A1] [.ref 0 0 0] [.ob (dsk w cu acts all fails false), .ob A0, .ob A1] (.v (.bool false)) := by
  refine HCall.of Try.func10 rfl (by decide +kernel) (Nat.le_of_ble_eq_true rfl) ?_
  refine cwp_seq ?_
  apply one_region
  case hc =>
    apply ChainL.of (some 2) rfl rfl
    case h => exact step_assign rfl
    exact .nil
  show Cwp _ _ _ _
  refine cwp_seq ?_
  apply one_region
  case hc =>
    apply ChainL.of (some 3) rfl rfl
    case h => exact step_move rfl
    apply ChainL.of (some 4) rfl rfl
    case h => (first | exact w_nil_nil tab (b := true) rfl rfl rfl rfl rfl | exact w_ptr_nil tab (b := true) rfl rfl rfl rfl rfl)
    apply ChainL.of (some 5) rfl rfl
    case h => exact step_move rfl
    first
    | apply ChainL.off (some 6) 2 5 false rfl rfl rfl rfl
    | apply ChainL.on (some 6) 2 5 false rfl rfl rfl rfl
      case h => exact step_move rfl
    first
    | apply ChainL.off (some 7) 2 5 false rfl rfl rfl rfl
    | apply ChainL.on (some 7) 2 5 false rfl rfl rfl rfl
      case h => (first | exact step_nilCheck rfl rfl | exact step_nilCheck_elt rfl rfl)
    first
    | apply ChainL.off (some 8) 2 5 false rfl rfl rfl rfl
    | apply ChainL.on (some 8) 2 5 false rfl rfl rfl rfl
      case h => (first | exact w_fieldAddr tab rfl rfl rfl rfl (by decide) rfl rfl | exact w_fieldAddr_elt tab rfl rfl rfl rfl (by decide) rfl rfl)
    first
    | apply ChainL.off (some 9) 2 5 false rfl rfl rfl rfl
    | apply ChainL.on (some 9) 2 5 false rfl rfl rfl rfl
      case h => (first | exact w_load tab rfl rfl rfl rfl rfl rfl rfl | exact w_load tab rfl rfl rfl rfl rfl (by assumption) rfl | exact w_load_elt tab rfl rfl rfl rfl rfl | exact w_loads tab rfl rfl rfl rfl rfl rfl rfl rfl | exact w_load_tab tab rfl rfl rfl rfl (.head _) (by kernel_rfl) | exact w_loads_elt tab rfl rfl rfl rfl rfl rfl)
    apply ChainL.of (some 10) rfl rfl
    case h => exact step_pick rfl rfl
    apply ChainL.of (some 2) rfl rfl
    case h => exact step_assign rfl
    exact .nil
  show Cwp _ _ _ _
  refine cwp_ret ?_
  exact ⟨.inl rfl, resH_one rfl rfl, objs_ok rfl⟩
theorem alive_4 (w cu : SV) (acts all fails : Int) (A0 A1 A2 : Ob) : HCall Try.prog 10 [dsk w cu acts all fails false, A0, A1, A2] [.ref 0 0 0] [.ob (dsk w cu acts all fails false), .ob A0, .ob A1, .ob A2] (.v (.bool false)) := by
  refine HCall.of Try.func10 rfl (by decide +kernel) (Nat.le_of_ble_eq_true rfl) ?_
  refine cwp_seq ?_
  apply one_region
  case hc =>
    apply ChainL.of (some 2) rfl rfl
    case h => exact step_assign rfl
    exact .nil
  show Cwp _ _ _ _
  refine cwp_seq ?_
  apply one_region
  case hc =>
    apply ChainL.of (some 3) rfl rfl
    case h => exact step_move rfl
    apply ChainL.of (some 4) rfl rfl
    case h => (first | exact w_nil_nil tab (b := true) rfl rfl rfl rfl rfl | exact w_ptr_nil tab (b := true) rfl rfl rfl rfl rfl)
    apply ChainL.of (some 5) rfl rfl
    case h => exact step_move rfl
    first
    | apply ChainL.off (some 6) 2 5 false rfl rfl rfl rfl
    | apply ChainL.on (some 6) 2 5 false rfl rfl rfl rfl
      case h => exact step_move rfl
    first
    | apply ChainL.off (some 7) 2 5 false rfl rfl rfl rfl
    | apply ChainL.on (some 7) 2 5 false rfl rfl rfl rfl
      case h => (first | exact step_nilCheck rfl rfl | exact step_nilCheck_elt rfl rfl)
    first
    | apply ChainL.off (some 8) 2 5 false rfl rfl rfl rfl
    | apply ChainL.on (some 8) 2 5 false rfl rfl rfl rfl
      case h => (first | exact w_fieldAddr tab rfl rfl rfl rfl (by decide) rfl rfl | exact w_fieldAddr_elt tab rfl rfl rfl rfl (by decide) rfl rfl)
    first
    | apply ChainL.off (some 9) 2 5 false rfl rfl rfl rfl
    | apply ChainL.on (some 9) 2 5 false rfl rfl rfl rfl
      case h => (first | exact w_load tab rfl rfl rfl rfl rfl rfl rfl | exact w_load tab rfl rfl rfl rfl rfl (by assumption) rfl | exact w_load_elt tab rfl rfl rfl rfl rfl | exact w_loads tab rfl rfl rfl rfl rfl rfl rfl rfl | exact w_load_tab tab rfl rfl rfl rfl (.head _) (by kernel_rfl) | exact w_loads_elt tab rfl rfl rfl rfl rfl rfl)
    apply ChainL.of (some 10) rfl rfl
    case h => exact step_pick rfl rfl
    apply ChainL.of (some 2) rfl rfl
    case h => exact step_assign rfl
    exact .nil
  show Cwp _ _ _ _
  refine cwp_ret ?_
  exact ⟨.inl rfl, resH_one rfl rfl, objs_ok rfl⟩
theorem alive_5 (w cu : SV) (acts all fails : Int) (A0 A1 A2 A3 : Ob) : HCall Try.prog 10 [dsk w cu acts all fails false, A0, A1, A2, A3] [.ref 0 0 0] [.ob (dsk w cu acts all fails false), .ob A0, .ob A1, .ob A2, .ob A3] (.v (.bool false)) := by
  refine HCall.of Try.func10 rfl (by decide +kernel) (Nat.le_of_ble_eq_true rfl) ?_
  refine cwp_seq ?_
  apply one_region
  case hc =>
    apply ChainL.of (some 2) rfl rfl
    case h => exact step_assign rfl
    exact .nil
  show Cwp _ _ _ _
  refine cwp_seq ?_
  apply one_region
  case hc =>
    apply ChainL.of (some 3) rfl rfl
    case h => exact step_move rfl
    apply ChainL.of (some 4) rfl rfl
    case h => (first | exact w_nil_nil tab (b := true) rfl rfl rfl rfl rfl | exact w_ptr_nil tab (b := true) rfl rfl rfl rfl rfl)
    apply ChainL.of (some 5) rfl rfl
    case h => exact step_move rfl
    first
    | apply ChainL.off (some 6) 2 5 false rfl rfl rfl rfl
    | apply ChainL.on (some 6) 2 5 false rfl rfl rfl rfl
      case h => exact step_move rfl
    first
    | apply ChainL.off (some 7) 2 5 false rfl rfl rfl rfl
    | apply ChainL.on (some 7) 2 5 false rfl rfl rfl rfl
      case h => (first | exact step_nilCheck rfl rfl | exact step_nilCheck_elt rfl rfl)
    first
    | apply ChainL.off (some 8) 2 5 false rfl rfl rfl rfl
    | apply ChainL.on (some 8) 2 5 false rfl rfl rfl rfl
      case h => (first | exact w_fieldAddr tab rfl rfl rfl rfl (by decide) rfl rfl | exact w_fieldAddr_elt tab rfl rfl rfl rfl (by decide) rfl rfl)
    first
    | apply ChainL.off (some 9) 2 5 false rfl rfl rfl rfl
    | apply ChainL.on (some 9) 2 5 false rfl rfl rfl rfl
      case h => (first | exact w_load tab rfl rfl rfl rfl rfl rfl rfl | exact w_load tab rfl rfl rfl rfl rfl (by assumption) rfl | exact w_load_elt tab rfl rfl rfl rfl rfl | exact w_loads tab rfl rfl rfl rfl rfl rfl rfl rfl | exact w_load_tab tab rfl rfl rfl rfl (.head _) (by kernel_rfl) | exact w_loads_elt tab rfl rfl rfl rfl rfl rfl)
    apply ChainL.of (some 10) rfl rfl
    case h => exact step_pick rfl rfl
    apply ChainL.of (some 2) rfl rfl
    case h => exact step_assign rfl
    exact .nil
  show Cwp _ _ _ _
  refine cwp_ret ?_
  exact ⟨.inl rfl, resH_one rfl rfl, objs_ok rfl⟩
theorem alive_6 (w cu : SV) (acts all fails : Int) (A0 A1 A2 A3 A4 : Ob) : HCall Try.prog 10 [dsk w cu acts all fails false, A0, A1, A2, A3, A4] [.ref 0 0 0] [.ob (dsk w cu acts all fails false), .ob A0, .ob A1, .ob A2, .ob A3, .ob A4] (.v (.bool false)) := by
  refine HCall.of Try.func10 rfl (by decide +kernel) (Nat.le_of_ble_eq_true rfl) ?_
  refine cwp_seq ?_
  apply one_region
  case hc =>
    apply ChainL.of (some 2) rfl rfl
    case h => exact step_assign rfl
    exact .nil
  show Cwp _ _ _ _
  refine cwp_seq ?_
  apply one_region
  case hc =>
    apply ChainL.of (some 3) rfl rfl
    case h => exact step_move rfl
    apply ChainL.of (some 4) rfl rfl
    case h => (first | exact w_nil_nil tab (b := true) rfl rfl rfl rfl rfl | exact w_ptr_nil tab (b := true) rfl rfl rfl rfl rfl)
    apply ChainL.of (some 5) rfl rfl
    case h => exact step_move rfl
    first
    | apply ChainL.off (some 6) 2 5 false rfl rfl rfl rfl
    | apply ChainL.on (some 6) 2 5 false rfl rfl rfl rfl
      case h => exact step_move rfl
    first
    | apply ChainL.off (some 7) 2 5 false rfl rfl rfl rfl
    | apply ChainL.on (some 7) 2 5 false rfl rfl rfl rfl
      case h => (first | exact step_nilCheck rfl rfl | exact step_nilCheck_elt rfl rfl)
    first
    | apply ChainL.off (some 8) 2 5 false rfl rfl rfl rfl
    | apply ChainL.on (some 8) 2 5 false rfl rfl rfl rfl
      case h => (first | exact w_fieldAddr tab rfl rfl rfl rfl (by decide) rfl rfl | exact w_fieldAddr_elt tab rfl rfl rfl rfl (by decide) rfl rfl)
    first
    | apply ChainL.off (some 9) 2 5 false rfl rfl rfl rfl
    | apply ChainL.on (some 9) 2 5 false rfl rfl rfl rfl
      case h => (first | exact w_load tab rfl rfl rfl rfl rfl rfl rfl | exact w_load tab rfl rfl rfl rfl rfl (by assumption) rfl | exact w_load_elt tab rfl rfl rfl rfl rfl | exact w_loads tab rfl rfl rfl rfl rfl rfl rfl rfl | exact w_load_tab tab rfl rfl rfl rfl (.head _) (by kernel_rfl) | exact w_loads_elt tab rfl rfl rfl rfl rfl rfl)
    apply ChainL.of (some 10) rfl rfl
    case h => exact step_pick rfl rfl
    apply ChainL.of (some 2) rfl rfl
    case h => exact step_assign rfl
    exact .nil
  show Cwp _ _ _ _
  refine cwp_ret ?_
  exact ⟨.inl rfl, resH_one rfl rfl, objs_ok rfl⟩
def waitO (at_ : Int) (t : ByteArray) : Ob := ⟨2, [[.v (.int .i64 at_), .v (.string (full t))]], false⟩
theorem write0_4 (n a fails : Int) (h0 : 0 ≤ n) (h1 : n + 1 ≤ a) (h2 : a ≤ 100) (D : List ByteArray) (T : List Bool) (at_ : Int) (g0 : 0 ≤ at_) (g1 : at_ < 9) (t : ByteArray) (g2 : t.size ≤ 256) (hD : D.length = 9) :
    HCall Try.prog 8 [dsk (.v (.slice none 0 0)) (.own 3 0 1) n n fails false, strs D, bools T, cutO a (.v (.slice none 0 0))] [.ref 0 0 0, .v (.int .i64 at_), .v (.string t)]
    [.ob (dsk (.own 4 0 1) (.own 3 0 1) (n + 1) (n + 1) fails false), .ob (strs D), .ob (bools T), .ob (cutO a (.v (.slice none 0 0))), .ob (waitO at_ t)] (.v (.int .i64 0)) := by
  have c1 := alive_4 (.v (.slice none 0 0)) (.own 3 0 1) n n fails (strs D) (bools T) (cutO a (.v (.slice none 0 0)))
  have c2 := actok_5 1 n a fails (.v (.slice none 0 0)) h0 h1 h2 D T (waitO at_ t)
  obtain ⟨L, hL⟩ : ∃ L : Int, (t.size : Int) = L := ⟨_, rfl⟩
  have hlen : ((strs D).rows.drop 0).take 9 = D.map fun s => [.v (.string s)] := by rw [List.drop_zero]; exact List.take_of_length_le (by simp [strs, hD])
  have hpad : ((⟨1, List.replicate (256 - L).toNat [SV.v (.int .u8 0)], false⟩ : Ob).rows.drop 0).take (256 - L).toNat = (List.replicate (256 - t.size) 0).map fun n => [SV.v (.int .u8 n)] := by
    rw [List.drop_zero, List.take_of_length_le (by simp), List.map_replicate]
    have e : (256 - L).toNat = 256 - t.size := by omega
    show List.replicate (256 - L).toNat _ = _
    rw [e]
  have hpl : (List.replicate (256 - t.size) (0 : Int)).length = (256 - L).toNat := by rw [List.length_replicate]; omega
  have hfull : abin .add (.string t) (.string (strOfNums (List.replicate (256 - t.size) 0))) = some (.string (full t)) := by
    simp only [abin]
    rw [if_neg (by rw [strOfNums_size, List.length_replicate]; omega)]
    rfl
  refine HCall.of Try.func8 rfl (by decide +kernel) (Nat.le_of_ble_eq_true rfl) ?_
  refine cwp_seq ?_
  apply one_region
  case hc =>
    apply ChainL.of (some 6) rfl rfl
    case h => exact step_assign rfl
    exact .nil
  show Cwp _ _ _ _
  refine cwp_seq ?_
  refine cwp_block ?_
  refine cwp_seq ?_
  apply one_region
  case hc =>
    apply ChainL.of (some 8) rfl rfl
    case h => exact step_move rfl
    apply ChainL.of (some 9) rfl rfl
    case h => exact w_call c1 [] [0, 1, 2, 3] [] Try.func10 rfl (by decide +kernel) rfl rfl .nil (by decide) (map4 rfl (strs_ren _ _) (bools_ren _ _) rfl) rfl rfl (all4 rfl (strs_lt _ _) (bools_lt _ _) rfl) rfl (all4 rfl (strs_lt _ _) (bools_lt _ _) rfl) rfl rfl rfl rfl (zip4 rfl (os_strs _ _) (os_bools _ _) rfl)
    apply ChainL.of (some 7) rfl rfl
    case h => exact step_assign rfl
    exact .nil
  show Cwp _ _ _ _
  refine cond_f (by first | rfl | kernel_rfl) ?_
  refine cwp_seq ?_
  apply one_region
  case hc =>
    apply ChainL.of (some 11) rfl rfl
    case h => exact step_move rfl
    apply ChainL.of (some 12) rfl rfl
    case h => (first | exact w_bin rfl rfl rfl (lss_t (by omega)) | exact w_bin rfl rfl rfl (lss_f (by omega)) | exact w_bin rfl rfl rfl rfl)
    apply ChainL.of (some 13) rfl rfl
    case h => exact step_move rfl
    first
    | apply ChainL.off (some 14) 2 13 false rfl rfl rfl rfl
    | apply ChainL.on (some 14) 2 13 false rfl rfl rfl rfl
      case h => exact step_move rfl
    first
    | apply ChainL.off (some 15) 2 13 false rfl rfl rfl rfl
    | apply ChainL.on (some 15) 2 13 false rfl rfl rfl rfl
      case h => exact step_move rfl
    first
    | apply ChainL.off (some 16) 2 13 false rfl rfl rfl rfl
    | apply ChainL.on (some 16) 2 13 false rfl rfl rfl rfl
      case h => (first | exact step_nilCheck rfl rfl | exact step_nilCheck_elt rfl rfl)
    first
    | apply ChainL.off (some 17) 2 13 false rfl rfl rfl rfl
    | apply ChainL.on (some 17) 2 13 false rfl rfl rfl rfl
      case h => (first | exact w_fieldAddr tab rfl rfl rfl rfl (by decide) rfl rfl | exact w_fieldAddr_elt tab rfl rfl rfl rfl (by decide) rfl rfl)
    first
    | apply ChainL.off (some 18) 2 13 false rfl rfl rfl rfl
    | apply ChainL.on (some 18) 2 13 false rfl rfl rfl rfl
      case h => (first | exact w_load tab rfl rfl rfl rfl rfl rfl rfl | exact w_load tab rfl rfl rfl rfl rfl (by assumption) rfl | exact w_load_elt tab rfl rfl rfl rfl rfl | exact w_loads tab rfl rfl rfl rfl rfl rfl rfl rfl | exact w_load_tab tab rfl rfl rfl rfl (.head _) (by kernel_rfl) | exact w_loads_elt tab rfl rfl rfl rfl rfl rfl)
    first
    | apply ChainL.off (some 19) 2 13 false rfl rfl rfl rfl
    | apply ChainL.on (some 19) 2 13 false rfl rfl rfl rfl
      case h => exact w_len tab rfl rfl rfl (.own rfl hlen (by simp [hD])) (n := 9) (by simp [hD])
    first
    | apply ChainL.off (some 20) 2 13 false rfl rfl rfl rfl
    | apply ChainL.on (some 20) 2 13 false rfl rfl rfl rfl
      case h => (first | exact w_bin rfl rfl rfl (geq_t (by omega)) | exact w_bin rfl rfl rfl (geq_f (by omega)) | exact w_bin rfl rfl rfl rfl)
    apply ChainL.of (some 21) rfl rfl
    case h => exact step_pick rfl rfl
    apply ChainL.of (some 10) rfl rfl
    case h => exact step_assign rfl
    exact .nil
  show Cwp _ _ _ _
  refine cond_f (by first | rfl | kernel_rfl) ?_
  refine cwp_seq ?_
  apply one_region
  case hc =>
    apply ChainL.of (some 23) rfl rfl
    case h => exact step_move rfl
    apply ChainL.of (some 24) rfl rfl
    case h => exact w_len_str (T := 9) (by kernel_rfl) rfl rfl hL
    apply ChainL.of (some 25) rfl rfl
    case h => (first | exact w_bin rfl rfl rfl (gtr_t (by omega)) | exact w_bin rfl rfl rfl (gtr_f (by omega)) | exact w_bin rfl rfl rfl rfl)
    apply ChainL.of (some 22) rfl rfl
    case h => exact step_assign rfl
    exact .nil
  show Cwp _ _ _ _
  refine cond_f (by first | rfl | kernel_rfl) ?_
  refine cwp_skip ?_
  show Cwp _ _ _ _
  refine cwp_seq ?_
  apply one_region
  case hc =>
    apply ChainL.of (some 26) rfl rfl
    case h => exact step_move rfl
    apply ChainL.of (some 27) rfl rfl
    case h => exact step_move rfl
    apply ChainL.of (some 28) rfl rfl
    case h => exact w_len_str (T := 9) (by kernel_rfl) rfl rfl hL
    apply ChainL.of (some 29) rfl rfl
    case h => (first | exact w_bin rfl rfl rfl (sub_i64 rfl (by omega) (by omega)) | exact w_bin rfl rfl rfl rfl)
    apply ChainL.of (some 30) rfl rfl
    case h => exact w_makeSlice tab rfl rfl rfl rfl 100 rfl rfl (by omega) (by dsimp only; omega) (by omega) (by decide) rfl rfl
    apply ChainL.of (some 31) rfl rfl
    case h => exact w_str_any (T := 51) (T2 := 9) (e := 5) (by kernel_rfl) (by kernel_rfl) (by kernel_rfl) rfl rfl rfl rfl (List.replicate (256 - t.size) 0) hpad hpl rfl
    apply ChainL.of (some 32) rfl rfl
    case h => exact w_bin rfl rfl rfl hfull
    apply ChainL.of (some 2) rfl rfl
    case h => exact step_assign rfl
    exact .nil
  show Cwp _ _ _ _
  refine cwp_seq ?_
  apply one_region
  case hc =>
    apply ChainL.of (some 33) rfl rfl
    case h => exact step_move rfl
    apply ChainL.of (some 34) rfl rfl
    case h => exact step_move rfl
    apply ChainL.of (some 35) rfl rfl
    case h => (first | exact step_nilCheck rfl rfl | exact step_nilCheck_elt rfl rfl)
    apply ChainL.of (some 36) rfl rfl
    case h => (first | exact w_fieldAddr tab rfl rfl rfl rfl (by decide) rfl rfl | exact w_fieldAddr_elt tab rfl rfl rfl rfl (by decide) rfl rfl)
    apply ChainL.of (some 37) rfl rfl
    case h => (first | exact w_load tab rfl rfl rfl rfl rfl rfl rfl | exact w_load tab rfl rfl rfl rfl rfl (by assumption) rfl | exact w_load_elt tab rfl rfl rfl rfl rfl | exact w_loads tab rfl rfl rfl rfl rfl rfl rfl rfl | exact w_load_tab tab rfl rfl rfl rfl (.head _) (by kernel_rfl) | exact w_loads_elt tab rfl rfl rfl rfl rfl rfl)
    apply ChainL.of (some 38) rfl rfl
    case h => exact step_move rfl
    apply ChainL.of (some 39) rfl rfl
    case h => exact step_move rfl
    apply ChainL.of (some 40) rfl rfl
    case h => exact w_build tab rfl rfl (by decide) rfl rfl
    apply ChainL.of (some 41) rfl rfl
    case h => exact w_slice1 tab rfl rfl rfl rfl 101 (by decide) (by decide) rfl rfl rfl
    apply ChainL.of (some 42) rfl rfl
    case h => (first | exact w_append_nil_own tab rfl rfl rfl rfl rfl rfl 4 (by decide) rfl rfl rfl rfl rfl rfl rfl (Nat.le_of_ble_eq_true rfl) rfl (Nat.le_of_ble_eq_true rfl) (Nat.le_of_ble_eq_true rfl) rfl | (apply w_append_own (id' := 4) tab rfl rfl rfl rfl rfl rfl; (case hm0 => decide); (case hx => first | exact rfl | exact Nat.le_of_ble_eq_true rfl); (case hob => first | exact rfl | exact Nat.le_of_ble_eq_true rfl); (case him => first | exact rfl | exact Nat.le_of_ble_eq_true rfl); (case hfz => first | exact rfl | exact Nat.le_of_ble_eq_true rfl); (case hrx => first | exact rfl | exact Nat.le_of_ble_eq_true rfl); (case hlx => first | exact rfl | exact Nat.le_of_ble_eq_true rfl); (case hy => first | exact rfl | exact Nat.le_of_ble_eq_true rfl); (case hob2 => first | exact rfl | exact Nat.le_of_ble_eq_true rfl); (case hm => first | exact rfl | exact Nat.le_of_ble_eq_true rfl); (case hr => first | exact rfl | exact Nat.le_of_ble_eq_true rfl); (case hrl => first | exact rfl | exact Nat.le_of_ble_eq_true rfl); (case hone => first | exact rfl | exact Nat.le_of_ble_eq_true rfl); (case honex => first | exact rfl | exact Nat.le_of_ble_eq_true rfl); (case hid => first | exact rfl | exact Nat.le_of_ble_eq_true rfl); (case hlim => first | exact rfl | exact Nat.le_of_ble_eq_true rfl); (case h63 => first | exact rfl | exact Nat.le_of_ble_eq_true rfl); (case hn => first | exact rfl | exact Nat.le_of_ble_eq_true rfl); (case hrows => first | exact rfl | exact Nat.le_of_ble_eq_true rfl)))
    apply ChainL.of (some 43) rfl rfl
    case h => (first | exact step_nilCheck rfl rfl | exact step_nilCheck_elt rfl rfl)
    apply ChainL.of (some 44) rfl rfl
    case h => (first | exact w_fieldAddr tab rfl rfl rfl rfl (by decide) rfl rfl | exact w_fieldAddr_elt tab rfl rfl rfl rfl (by decide) rfl rfl)
    apply ChainL.of none rfl rfl
    case h => (first | exact w_store tab rfl rfl rfl rfl rfl rfl rfl rfl rfl (Nat.le_of_ble_eq_true rfl) rfl rfl | exact w_store tab rfl rfl rfl rfl rfl (by assumption) rfl rfl rfl (Nat.le_of_ble_eq_true rfl) rfl rfl)
    exact .nil
  show Cwp _ _ _ _
  refine cwp_seq ?_
  refine cwp_seq ?_
  apply one_region
  case hc =>
    apply ChainL.of (some 45) rfl rfl
    case h => exact step_move rfl
    apply ChainL.of (some 46) rfl rfl
    case h => exact w_call c2 [] [0, 1, 2, 4, 3] [] Try.func20 rfl (by decide +kernel) rfl rfl .nil (by decide) (map5 rfl (strs_ren _ _) (bools_ren _ _) rfl rfl) rfl rfl (all5 rfl (strs_lt _ _) (bools_lt _ _) rfl rfl) rfl (all5 rfl (strs_lt _ _) (bools_lt _ _) rfl rfl) rfl rfl rfl rfl (zip5 rfl (os_strs _ _) (os_bools _ _) rfl rfl)
    exact .nil
  show Cwp _ _ _ _
  refine cond_f (by first | rfl | kernel_rfl) ?_
  refine cwp_skip ?_
  show Cwp _ _ _ _
  refine cwp_seq ?_
  apply one_region
  case hc =>
    apply ChainL.of (some 6) rfl rfl
    case h => exact step_assign rfl
    exact .nil
  show Cwp _ _ _ _
  refine cwp_ret ?_
  exact ⟨.inl rfl, resH_one rfl rfl, objs_ok rfl⟩
theorem write0_5 (n a fails : Int) (h0 : 0 ≤ n) (h1 : n + 1 ≤ a) (h2 : a ≤ 100) (D : List ByteArray) (T : List Bool) (F : List Int) (at_ : Int) (g0 : 0 ≤ at_) (g1 : at_ < 9) (t : ByteArray) (g2 : t.size ≤ 256) (hD : D.length = 9) :
    HCall Try.prog 8 [dsk (.v (.slice none 0 0)) (.own 3 0 1) n n fails false, strs D, bools T, cutO a (.own 4 0 F.length), ints F] [.ref 0 0 0, .v (.int .i64 at_), .v (.string t)]
    [.ob (dsk (.own 5 0 1) (.own 3 0 1) (n + 1) (n + 1) fails false), .ob (strs D), .ob (bools T), .ob (cutO a (.own 4 0 F.length)), .ob (ints F), .ob (waitO at_ t)] (.v (.int .i64 0)) := by
  have c1 := alive_5 (.v (.slice none 0 0)) (.own 3 0 1) n n fails (strs D) (bools T) (cutO a (.own 4 0 F.length)) (ints F)
  have c2 := actok_6 1 n a fails (.own 5 0 F.length) h0 h1 h2 D T (waitO at_ t) (ints F)
  obtain ⟨L, hL⟩ : ∃ L : Int, (t.size : Int) = L := ⟨_, rfl⟩
  have hlen : ((strs D).rows.drop 0).take 9 = D.map fun s => [.v (.string s)] := by rw [List.drop_zero]; exact List.take_of_length_le (by simp [strs, hD])
  have hpad : ((⟨1, List.replicate (256 - L).toNat [SV.v (.int .u8 0)], false⟩ : Ob).rows.drop 0).take (256 - L).toNat = (List.replicate (256 - t.size) 0).map fun n => [SV.v (.int .u8 n)] := by
    rw [List.drop_zero, List.take_of_length_le (by simp), List.map_replicate]
    have e : (256 - L).toNat = 256 - t.size := by omega
    show List.replicate (256 - L).toNat _ = _
    rw [e]
  have hpl : (List.replicate (256 - t.size) (0 : Int)).length = (256 - L).toNat := by rw [List.length_replicate]; omega
  have hfull : abin .add (.string t) (.string (strOfNums (List.replicate (256 - t.size) 0))) = some (.string (full t)) := by
    simp only [abin]
    rw [if_neg (by rw [strOfNums_size, List.length_replicate]; omega)]
    rfl
  refine HCall.of Try.func8 rfl (by decide +kernel) (Nat.le_of_ble_eq_true rfl) ?_
  refine cwp_seq ?_
  apply one_region
  case hc =>
    apply ChainL.of (some 6) rfl rfl
    case h => exact step_assign rfl
    exact .nil
  show Cwp _ _ _ _
  refine cwp_seq ?_
  refine cwp_block ?_
  refine cwp_seq ?_
  apply one_region
  case hc =>
    apply ChainL.of (some 8) rfl rfl
    case h => exact step_move rfl
    apply ChainL.of (some 9) rfl rfl
    case h => exact w_call c1 [] [0, 1, 2, 3, 4] [] Try.func10 rfl (by decide +kernel) rfl rfl .nil (by decide) (map5 rfl (strs_ren _ _) (bools_ren _ _) rfl (ints_ren _ _)) rfl rfl (all5 rfl (strs_lt _ _) (bools_lt _ _) rfl (ints_lt _ _)) rfl (all5 rfl (strs_lt _ _) (bools_lt _ _) rfl (ints_lt _ _)) rfl rfl rfl rfl (zip5 rfl (os_strs _ _) (os_bools _ _) rfl (os_ints _ _))
    apply ChainL.of (some 7) rfl rfl
    case h => exact step_assign rfl
    exact .nil
  show Cwp _ _ _ _
  refine cond_f (by first | rfl | kernel_rfl) ?_
  refine cwp_seq ?_
  apply one_region
  case hc =>
    apply ChainL.of (some 11) rfl rfl
    case h => exact step_move rfl
    apply ChainL.of (some 12) rfl rfl
    case h => (first | exact w_bin rfl rfl rfl (lss_t (by omega)) | exact w_bin rfl rfl rfl (lss_f (by omega)) | exact w_bin rfl rfl rfl rfl)
    apply ChainL.of (some 13) rfl rfl
    case h => exact step_move rfl
    first
    | apply ChainL.off (some 14) 2 13 false rfl rfl rfl rfl
    | apply ChainL.on (some 14) 2 13 false rfl rfl rfl rfl
      case h => exact step_move rfl
    first
    | apply ChainL.off (some 15) 2 13 false rfl rfl rfl rfl
    | apply ChainL.on (some 15) 2 13 false rfl rfl rfl rfl
      case h => exact step_move rfl
    first
    | apply ChainL.off (some 16) 2 13 false rfl rfl rfl rfl
    | apply ChainL.on (some 16) 2 13 false rfl rfl rfl rfl
      case h => (first | exact step_nilCheck rfl rfl | exact step_nilCheck_elt rfl rfl)
    first
    | apply ChainL.off (some 17) 2 13 false rfl rfl rfl rfl
    | apply ChainL.on (some 17) 2 13 false rfl rfl rfl rfl
      case h => (first | exact w_fieldAddr tab rfl rfl rfl rfl (by decide) rfl rfl | exact w_fieldAddr_elt tab rfl rfl rfl rfl (by decide) rfl rfl)
    first
    | apply ChainL.off (some 18) 2 13 false rfl rfl rfl rfl
    | apply ChainL.on (some 18) 2 13 false rfl rfl rfl rfl
      case h => (first | exact w_load tab rfl rfl rfl rfl rfl rfl rfl | exact w_load tab rfl rfl rfl rfl rfl (by assumption) rfl | exact w_load_elt tab rfl rfl rfl rfl rfl | exact w_loads tab rfl rfl rfl rfl rfl rfl rfl rfl | exact w_load_tab tab rfl rfl rfl rfl (.head _) (by kernel_rfl) | exact w_loads_elt tab rfl rfl rfl rfl rfl rfl)
    first
    | apply ChainL.off (some 19) 2 13 false rfl rfl rfl rfl
    | apply ChainL.on (some 19) 2 13 false rfl rfl rfl rfl
      case h => exact w_len tab rfl rfl rfl (.own rfl hlen (by simp [hD])) (n := 9) (by simp [hD])
    first
    | apply ChainL.off (some 20) 2 13 false rfl rfl rfl rfl
    | apply ChainL.on (some 20) 2 13 false rfl rfl rfl rfl
      case h => (first | exact w_bin rfl rfl rfl (geq_t (by omega)) | exact w_bin rfl rfl rfl (geq_f (by omega)) | exact w_bin rfl rfl rfl rfl)
    apply ChainL.of (some 21) rfl rfl
    case h => exact step_pick rfl rfl
    apply ChainL.of (some 10) rfl rfl
    case h => exact step_assign rfl
    exact .nil
  show Cwp _ _ _ _
  refine cond_f (by first | rfl | kernel_rfl) ?_
  refine cwp_seq ?_
  apply one_region
  case hc =>
    apply ChainL.of (some 23) rfl rfl
    case h => exact step_move rfl
    apply ChainL.of (some 24) rfl rfl
    case h => exact w_len_str (T := 9) (by kernel_rfl) rfl rfl hL
    apply ChainL.of (some 25) rfl rfl
    case h => (first | exact w_bin rfl rfl rfl (gtr_t (by omega)) | exact w_bin rfl rfl rfl (gtr_f (by omega)) | exact w_bin rfl rfl rfl rfl)
    apply ChainL.of (some 22) rfl rfl
    case h => exact step_assign rfl
    exact .nil
  show Cwp _ _ _ _
  refine cond_f (by first | rfl | kernel_rfl) ?_
  refine cwp_skip ?_
  show Cwp _ _ _ _
  refine cwp_seq ?_
  apply one_region
  case hc =>
    apply ChainL.of (some 26) rfl rfl
    case h => exact step_move rfl
    apply ChainL.of (some 27) rfl rfl
    case h => exact step_move rfl
    apply ChainL.of (some 28) rfl rfl
    case h => exact w_len_str (T := 9) (by kernel_rfl) rfl rfl hL
    apply ChainL.of (some 29) rfl rfl
    case h => (first | exact w_bin rfl rfl rfl (sub_i64 rfl (by omega) (by omega)) | exact w_bin rfl rfl rfl rfl)
    apply ChainL.of (some 30) rfl rfl
    case h => exact w_makeSlice tab rfl rfl rfl rfl 102 rfl rfl (by omega) (by dsimp only; omega) (by omega) (by decide) rfl rfl
    apply ChainL.of (some 31) rfl rfl
    case h => exact w_str_any (T := 51) (T2 := 9) (e := 5) (by kernel_rfl) (by kernel_rfl) (by kernel_rfl) rfl rfl rfl rfl (List.replicate (256 - t.size) 0) hpad hpl rfl
    apply ChainL.of (some 32) rfl rfl
    case h => exact w_bin rfl rfl rfl hfull
    apply ChainL.of (some 2) rfl rfl
    case h => exact step_assign rfl
    exact .nil
  show Cwp _ _ _ _
  refine cwp_seq ?_
  apply one_region
  case hc =>
    apply ChainL.of (some 33) rfl rfl
    case h => exact step_move rfl
    apply ChainL.of (some 34) rfl rfl
    case h => exact step_move rfl
    apply ChainL.of (some 35) rfl rfl
    case h => (first | exact step_nilCheck rfl rfl | exact step_nilCheck_elt rfl rfl)
    apply ChainL.of (some 36) rfl rfl
    case h => (first | exact w_fieldAddr tab rfl rfl rfl rfl (by decide) rfl rfl | exact w_fieldAddr_elt tab rfl rfl rfl rfl (by decide) rfl rfl)
    apply ChainL.of (some 37) rfl rfl
    case h => (first | exact w_load tab rfl rfl rfl rfl rfl rfl rfl | exact w_load tab rfl rfl rfl rfl rfl (by assumption) rfl | exact w_load_elt tab rfl rfl rfl rfl rfl | exact w_loads tab rfl rfl rfl rfl rfl rfl rfl rfl | exact w_load_tab tab rfl rfl rfl rfl (.head _) (by kernel_rfl) | exact w_loads_elt tab rfl rfl rfl rfl rfl rfl)
    apply ChainL.of (some 38) rfl rfl
    case h => exact step_move rfl
    apply ChainL.of (some 39) rfl rfl
    case h => exact step_move rfl
    apply ChainL.of (some 40) rfl rfl
    case h => exact w_build tab rfl rfl (by decide) rfl rfl
    apply ChainL.of (some 41) rfl rfl
    case h => exact w_slice1 tab rfl rfl rfl rfl 103 (by decide) (by decide) rfl rfl rfl
    apply ChainL.of (some 42) rfl rfl
    case h => (first | exact w_append_nil_own tab rfl rfl rfl rfl rfl rfl 5 (by decide) rfl rfl rfl rfl rfl rfl rfl (Nat.le_of_ble_eq_true rfl) rfl (Nat.le_of_ble_eq_true rfl) (Nat.le_of_ble_eq_true rfl) rfl | (apply w_append_own (id' := 5) tab rfl rfl rfl rfl rfl rfl; (case hm0 => decide); (case hx => first | exact rfl | exact Nat.le_of_ble_eq_true rfl); (case hob => first | exact rfl | exact Nat.le_of_ble_eq_true rfl); (case him => first | exact rfl | exact Nat.le_of_ble_eq_true rfl); (case hfz => first | exact rfl | exact Nat.le_of_ble_eq_true rfl); (case hrx => first | exact rfl | exact Nat.le_of_ble_eq_true rfl); (case hlx => first | exact rfl | exact Nat.le_of_ble_eq_true rfl); (case hy => first | exact rfl | exact Nat.le_of_ble_eq_true rfl); (case hob2 => first | exact rfl | exact Nat.le_of_ble_eq_true rfl); (case hm => first | exact rfl | exact Nat.le_of_ble_eq_true rfl); (case hr => first | exact rfl | exact Nat.le_of_ble_eq_true rfl); (case hrl => first | exact rfl | exact Nat.le_of_ble_eq_true rfl); (case hone => first | exact rfl | exact Nat.le_of_ble_eq_true rfl); (case honex => first | exact rfl | exact Nat.le_of_ble_eq_true rfl); (case hid => first | exact rfl | exact Nat.le_of_ble_eq_true rfl); (case hlim => first | exact rfl | exact Nat.le_of_ble_eq_true rfl); (case h63 => first | exact rfl | exact Nat.le_of_ble_eq_true rfl); (case hn => first | exact rfl | exact Nat.le_of_ble_eq_true rfl); (case hrows => first | exact rfl | exact Nat.le_of_ble_eq_true rfl)))
    apply ChainL.of (some 43) rfl rfl
    case h => (first | exact step_nilCheck rfl rfl | exact step_nilCheck_elt rfl rfl)
    apply ChainL.of (some 44) rfl rfl
    case h => (first | exact w_fieldAddr tab rfl rfl rfl rfl (by decide) rfl rfl | exact w_fieldAddr_elt tab rfl rfl rfl rfl (by decide) rfl rfl)
    apply ChainL.of none rfl rfl
    case h => (first | exact w_store tab rfl rfl rfl rfl rfl rfl rfl rfl rfl (Nat.le_of_ble_eq_true rfl) rfl rfl | exact w_store tab rfl rfl rfl rfl rfl (by assumption) rfl rfl rfl (Nat.le_of_ble_eq_true rfl) rfl rfl)
    exact .nil
  show Cwp _ _ _ _
  refine cwp_seq ?_
  refine cwp_seq ?_
  apply one_region
  case hc =>
    apply ChainL.of (some 45) rfl rfl
    case h => exact step_move rfl
    apply ChainL.of (some 46) rfl rfl
    case h => exact w_call c2 [] [0, 1, 2, 5, 3, 4] [] Try.func20 rfl (by decide +kernel) rfl rfl .nil (by decide) (map6 rfl (strs_ren _ _) (bools_ren _ _) rfl rfl (ints_ren _ _)) rfl rfl (all6 rfl (strs_lt _ _) (bools_lt _ _) rfl rfl (ints_lt _ _)) rfl (all6 rfl (strs_lt _ _) (bools_lt _ _) rfl rfl (ints_lt _ _)) rfl rfl rfl rfl (zip6 rfl (os_strs _ _) (os_bools _ _) rfl rfl (os_ints _ _))
    exact .nil
  show Cwp _ _ _ _
  refine cond_f (by first | rfl | kernel_rfl) ?_
  refine cwp_skip ?_
  show Cwp _ _ _ _
  refine cwp_seq ?_
  apply one_region
  case hc =>
    apply ChainL.of (some 6) rfl rfl
    case h => exact step_assign rfl
    exact .nil
  show Cwp _ _ _ _
  refine cwp_ret ?_
  exact ⟨.inl rfl, resH_one rfl rfl, objs_ok rfl⟩
end Go.Proofs.Ytcbbpidnocgoiaa.Dk

