/- The types. -/
import Derived.Test.YtcbbpidnocgoiaaDoorEng17
import Derived.Test.YtcbbpidnocgoiaaDoorProg
namespace Go.Proofs.YtcbbpidnocgoiaaDoor.Sp
open Go Go.RowKit Go.Proofs.YtcbbpidnocgoiaaDoor.Eng
set_option linter.unusedVariables false
def tt : Nat → Option TI
  | 3 => some ⟨false, 1, 8, [.v (.int .i64 0)], [], none, false, false, some .i64⟩
  | 4 => some ⟨false, 1, 1, [.v (.bool false)], [], none, true, false, none⟩
  | 5 => some ⟨false, 1, 1, [.v (.int .u8 0)], [], none, false, false, some .u8⟩
  | 23 => some ⟨false, 1, 8, [.v (.pointer none)], [], none, false, true, none⟩
  | 25 => some ⟨false, 1, 24, [.v (.slice none 0 0)], [], some 4, false, false, none⟩
  | 36 => some ⟨false, 1, 24, [.v (.slice none 0 0)], [], some 39, false, false, none⟩
  | 38 => some ⟨true, 2, 32, [.v (.int .i64 0), .v (.slice none 0 0)], [(0, 3), (1, 36)], none, false, false, none⟩
  | 39 => some ⟨false, 1, 8, [.v (.int .u64 0)], [], none, false, false, some .u64⟩
  | _ => none
theorem tt3 : ∀ t, tt 3 = some t → TIok Tryd.prog 3 t := by
  intro t h
  cases h
  have hu : (Tryd.prog.underlying 3).isSome = true := by kernel_rfl
  have hi : (Tryd.prog.info? 3).isSome = true := by kernel_rfl
  have hz : ((Tryd.prog.info? 3).get hi).zero.isSome = true := by kernel_rfl
  exact ⟨⟨(Tryd.prog.underlying 3).get hu, (Tryd.prog.info? 3).get hi, ((Tryd.prog.info? 3).get hi).zero.get hz, (Option.some_get hu).symm, (Option.some_get hi).symm, (Option.some_get hz).symm, by kernel_rfl, by kernel_rfl, by kernel_rfl, by kernel_rfl, by kernel_rfl, fun h => absurd rfl h, fun e h => (by cases h), fun h => (by cases h), fun h => (by cases h), fun k h => (by cases h; kernel_rfl)⟩⟩
theorem tt4 : ∀ t, tt 4 = some t → TIok Tryd.prog 4 t := by
  intro t h
  cases h
  have hu : (Tryd.prog.underlying 4).isSome = true := by kernel_rfl
  have hi : (Tryd.prog.info? 4).isSome = true := by kernel_rfl
  have hz : ((Tryd.prog.info? 4).get hi).zero.isSome = true := by kernel_rfl
  exact ⟨⟨(Tryd.prog.underlying 4).get hu, (Tryd.prog.info? 4).get hi, ((Tryd.prog.info? 4).get hi).zero.get hz, (Option.some_get hu).symm, (Option.some_get hi).symm, (Option.some_get hz).symm, by kernel_rfl, by kernel_rfl, by kernel_rfl, by kernel_rfl, by kernel_rfl, fun h => absurd rfl h, fun e h => (by cases h), fun _ => (by kernel_rfl), fun h => (by cases h), fun k h => (by cases h)⟩⟩
theorem tt5 : ∀ t, tt 5 = some t → TIok Tryd.prog 5 t := by
  intro t h
  cases h
  have hu : (Tryd.prog.underlying 5).isSome = true := by kernel_rfl
  have hi : (Tryd.prog.info? 5).isSome = true := by kernel_rfl
  have hz : ((Tryd.prog.info? 5).get hi).zero.isSome = true := by kernel_rfl
  exact ⟨⟨(Tryd.prog.underlying 5).get hu, (Tryd.prog.info? 5).get hi, ((Tryd.prog.info? 5).get hi).zero.get hz, (Option.some_get hu).symm, (Option.some_get hi).symm, (Option.some_get hz).symm, by kernel_rfl, by kernel_rfl, by kernel_rfl, by kernel_rfl, by kernel_rfl, fun h => absurd rfl h, fun e h => (by cases h), fun h => (by cases h), fun h => (by cases h), fun k h => (by cases h; kernel_rfl)⟩⟩
theorem tt23 : ∀ t, tt 23 = some t → TIok Tryd.prog 23 t := by
  intro t h
  cases h
  have hu : (Tryd.prog.underlying 23).isSome = true := by kernel_rfl
  have hi : (Tryd.prog.info? 23).isSome = true := by kernel_rfl
  have hz : ((Tryd.prog.info? 23).get hi).zero.isSome = true := by kernel_rfl
  exact ⟨⟨(Tryd.prog.underlying 23).get hu, (Tryd.prog.info? 23).get hi, ((Tryd.prog.info? 23).get hi).zero.get hz, (Option.some_get hu).symm, (Option.some_get hi).symm, (Option.some_get hz).symm, by kernel_rfl, by kernel_rfl, by kernel_rfl, by kernel_rfl, by kernel_rfl, fun h => absurd rfl h, fun e h => (by cases h), fun h => (by cases h), fun _ => (by kernel_rfl), fun k h => (by cases h)⟩⟩
theorem tt25 : ∀ t, tt 25 = some t → TIok Tryd.prog 25 t := by
  intro t h
  cases h
  have hu : (Tryd.prog.underlying 25).isSome = true := by kernel_rfl
  have hi : (Tryd.prog.info? 25).isSome = true := by kernel_rfl
  have hz : ((Tryd.prog.info? 25).get hi).zero.isSome = true := by kernel_rfl
  exact ⟨⟨(Tryd.prog.underlying 25).get hu, (Tryd.prog.info? 25).get hi, ((Tryd.prog.info? 25).get hi).zero.get hz, (Option.some_get hu).symm, (Option.some_get hi).symm, (Option.some_get hz).symm, by kernel_rfl, by kernel_rfl, by kernel_rfl, by kernel_rfl, by kernel_rfl, fun h => absurd rfl h, fun e h => (by cases h; kernel_rfl), fun h => (by cases h), fun h => (by cases h), fun k h => (by cases h)⟩⟩
theorem tt36 : ∀ t, tt 36 = some t → TIok Tryd.prog 36 t := by
  intro t h
  cases h
  have hu : (Tryd.prog.underlying 36).isSome = true := by kernel_rfl
  have hi : (Tryd.prog.info? 36).isSome = true := by kernel_rfl
  have hz : ((Tryd.prog.info? 36).get hi).zero.isSome = true := by kernel_rfl
  exact ⟨⟨(Tryd.prog.underlying 36).get hu, (Tryd.prog.info? 36).get hi, ((Tryd.prog.info? 36).get hi).zero.get hz, (Option.some_get hu).symm, (Option.some_get hi).symm, (Option.some_get hz).symm, by kernel_rfl, by kernel_rfl, by kernel_rfl, by kernel_rfl, by kernel_rfl, fun h => absurd rfl h, fun e h => (by cases h; kernel_rfl), fun h => (by cases h), fun h => (by cases h), fun k h => (by cases h)⟩⟩
theorem tt38 : ∀ t, tt 38 = some t → TIok Tryd.prog 38 t := by
  intro t h
  cases h
  have hu : (Tryd.prog.underlying 38).isSome = true := by kernel_rfl
  have hi : (Tryd.prog.info? 38).isSome = true := by kernel_rfl
  have hz : ((Tryd.prog.info? 38).get hi).zero.isSome = true := by kernel_rfl
  exact ⟨⟨(Tryd.prog.underlying 38).get hu, (Tryd.prog.info? 38).get hi, ((Tryd.prog.info? 38).get hi).zero.get hz, (Option.some_get hu).symm, (Option.some_get hi).symm, (Option.some_get hz).symm, by kernel_rfl, by kernel_rfl, by kernel_rfl, by kernel_rfl, by kernel_rfl, fun _ => ⟨(match (Tryd.prog.underlying 38).get hu with | .struct fs => fs | _ => #[]), by kernel_rfl, by kernel_rfl⟩, fun e h => (by cases h), fun h => (by cases h), fun h => (by cases h), fun k h => (by cases h)⟩⟩
theorem tt39 : ∀ t, tt 39 = some t → TIok Tryd.prog 39 t := by
  intro t h
  cases h
  have hu : (Tryd.prog.underlying 39).isSome = true := by kernel_rfl
  have hi : (Tryd.prog.info? 39).isSome = true := by kernel_rfl
  have hz : ((Tryd.prog.info? 39).get hi).zero.isSome = true := by kernel_rfl
  exact ⟨⟨(Tryd.prog.underlying 39).get hu, (Tryd.prog.info? 39).get hi, ((Tryd.prog.info? 39).get hi).zero.get hz, (Option.some_get hu).symm, (Option.some_get hi).symm, (Option.some_get hz).symm, by kernel_rfl, by kernel_rfl, by kernel_rfl, by kernel_rfl, by kernel_rfl, fun h => absurd rfl h, fun e h => (by cases h), fun h => (by cases h), fun h => (by cases h), fun k h => (by cases h; kernel_rfl)⟩⟩
theorem tab : Tab Tryd.prog tt := by
  intro T t h
  have h0 := h
  unfold tt at h
  split at h
  · exact tt3 t h0
  · exact tt4 t h0
  · exact tt5 t h0
  · exact tt23 t h0
  · exact tt25 t h0
  · exact tt36 t h0
  · exact tt38 t h0
  · exact tt39 t h0
  cases h
end Go.Proofs.YtcbbpidnocgoiaaDoor.Sp
