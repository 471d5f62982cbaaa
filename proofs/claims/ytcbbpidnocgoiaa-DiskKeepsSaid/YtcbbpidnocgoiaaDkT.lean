/- The types. -/
import Derived.Test.YtcbbpidnocgoiaaEng18
import Derived.Test.YtcbbpidnocgoiaaProg
namespace Go.Proofs.Ytcbbpidnocgoiaa.Dk
open Go Go.RowKit Go.Proofs.Ytcbbpidnocgoiaa.Eng
set_option linter.unusedVariables false
def tt : Nat → Option TI
  | 3 => some ⟨false, 1, 8, [.v (.int .i64 0)], [], none, false, false, some .i64⟩
  | 4 => some ⟨false, 1, 1, [.v (.bool false)], [], none, true, false, none⟩
  | 5 => some ⟨false, 1, 1, [.v (.int .u8 0)], [], none, false, false, some .u8⟩
  | 9 => some ⟨false, 1, 16, [.v (.string ⟨#[]⟩)], [], none, false, false, none⟩
  | 22 => some ⟨false, 1, 24, [.v (.slice none 0 0)], [], some 3, false, false, none⟩
  | 24 => some ⟨true, 2, 32, [.v (.int .i64 0), .v (.slice none 0 0)], [(0, 3), (1, 22)], none, false, false, none⟩
  | 25 => some ⟨false, 1, 8, [.v (.pointer none)], [], none, false, true, none⟩
  | 26 => some ⟨false, 1, 8, [.v (.int .i64 0)], [], none, false, false, some .i64⟩
  | 29 => some ⟨false, 1, 24, [.v (.slice none 0 0)], [], some 24, false, false, none⟩
  | 46 => some ⟨false, 1, 24, [.v (.slice none 0 0)], [], some 9, false, false, none⟩
  | 47 => some ⟨false, 1, 24, [.v (.slice none 0 0)], [], some 4, false, false, none⟩
  | 48 => some ⟨false, 1, 24, [.v (.slice none 0 0)], [], some 53, false, false, none⟩
  | 50 => some ⟨true, 8, 128, [.v (.slice none 0 0), .v (.slice none 0 0), .v (.slice none 0 0), .v (.slice none 0 0), .v (.int .i64 0), .v (.int .i64 0), .v (.int .i64 0), .v (.bool false)], [(0, 46), (1, 47), (2, 48), (3, 29), (4, 3), (5, 3), (6, 3), (7, 4)], none, false, false, none⟩
  | 51 => some ⟨false, 1, 24, [.v (.slice none 0 0)], [], some 5, false, false, none⟩
  | 53 => some ⟨true, 2, 24, [.v (.int .i64 0), .v (.string ⟨#[]⟩)], [(0, 3), (1, 9)], none, false, false, none⟩
  | _ => none
theorem tt3 : ∀ t, tt 3 = some t → TIok Try.prog 3 t := by
  intro t h
  cases h
  have hu : (Try.prog.underlying 3).isSome = true := by kernel_rfl
  have hi : (Try.prog.info? 3).isSome = true := by kernel_rfl
  have hz : ((Try.prog.info? 3).get hi).zero.isSome = true := by kernel_rfl
  exact ⟨⟨(Try.prog.underlying 3).get hu, (Try.prog.info? 3).get hi, ((Try.prog.info? 3).get hi).zero.get hz, (Option.some_get hu).symm, (Option.some_get hi).symm, (Option.some_get hz).symm, by kernel_rfl, by kernel_rfl, by kernel_rfl, by kernel_rfl, by kernel_rfl, fun h => absurd rfl h, fun e h => (by cases h), fun h => (by cases h), fun h => (by cases h), fun k h => (by cases h; kernel_rfl)⟩⟩
theorem tt4 : ∀ t, tt 4 = some t → TIok Try.prog 4 t := by
  intro t h
  cases h
  have hu : (Try.prog.underlying 4).isSome = true := by kernel_rfl
  have hi : (Try.prog.info? 4).isSome = true := by kernel_rfl
  have hz : ((Try.prog.info? 4).get hi).zero.isSome = true := by kernel_rfl
  exact ⟨⟨(Try.prog.underlying 4).get hu, (Try.prog.info? 4).get hi, ((Try.prog.info? 4).get hi).zero.get hz, (Option.some_get hu).symm, (Option.some_get hi).symm, (Option.some_get hz).symm, by kernel_rfl, by kernel_rfl, by kernel_rfl, by kernel_rfl, by kernel_rfl, fun h => absurd rfl h, fun e h => (by cases h), fun _ => (by kernel_rfl), fun h => (by cases h), fun k h => (by cases h)⟩⟩
theorem tt5 : ∀ t, tt 5 = some t → TIok Try.prog 5 t := by
  intro t h
  cases h
  have hu : (Try.prog.underlying 5).isSome = true := by kernel_rfl
  have hi : (Try.prog.info? 5).isSome = true := by kernel_rfl
  have hz : ((Try.prog.info? 5).get hi).zero.isSome = true := by kernel_rfl
  exact ⟨⟨(Try.prog.underlying 5).get hu, (Try.prog.info? 5).get hi, ((Try.prog.info? 5).get hi).zero.get hz, (Option.some_get hu).symm, (Option.some_get hi).symm, (Option.some_get hz).symm, by kernel_rfl, by kernel_rfl, by kernel_rfl, by kernel_rfl, by kernel_rfl, fun h => absurd rfl h, fun e h => (by cases h), fun h => (by cases h), fun h => (by cases h), fun k h => (by cases h; kernel_rfl)⟩⟩
theorem tt9 : ∀ t, tt 9 = some t → TIok Try.prog 9 t := by
  intro t h
  cases h
  have hu : (Try.prog.underlying 9).isSome = true := by kernel_rfl
  have hi : (Try.prog.info? 9).isSome = true := by kernel_rfl
  have hz : ((Try.prog.info? 9).get hi).zero.isSome = true := by kernel_rfl
  exact ⟨⟨(Try.prog.underlying 9).get hu, (Try.prog.info? 9).get hi, ((Try.prog.info? 9).get hi).zero.get hz, (Option.some_get hu).symm, (Option.some_get hi).symm, (Option.some_get hz).symm, by kernel_rfl, by kernel_rfl, by kernel_rfl, by kernel_rfl, by kernel_rfl, fun h => absurd rfl h, fun e h => (by cases h), fun h => (by cases h), fun h => (by cases h), fun k h => (by cases h)⟩⟩
theorem tt22 : ∀ t, tt 22 = some t → TIok Try.prog 22 t := by
  intro t h
  cases h
  have hu : (Try.prog.underlying 22).isSome = true := by kernel_rfl
  have hi : (Try.prog.info? 22).isSome = true := by kernel_rfl
  have hz : ((Try.prog.info? 22).get hi).zero.isSome = true := by kernel_rfl
  exact ⟨⟨(Try.prog.underlying 22).get hu, (Try.prog.info? 22).get hi, ((Try.prog.info? 22).get hi).zero.get hz, (Option.some_get hu).symm, (Option.some_get hi).symm, (Option.some_get hz).symm, by kernel_rfl, by kernel_rfl, by kernel_rfl, by kernel_rfl, by kernel_rfl, fun h => absurd rfl h, fun e h => (by cases h; kernel_rfl), fun h => (by cases h), fun h => (by cases h), fun k h => (by cases h)⟩⟩
theorem tt24 : ∀ t, tt 24 = some t → TIok Try.prog 24 t := by
  intro t h
  cases h
  have hu : (Try.prog.underlying 24).isSome = true := by kernel_rfl
  have hi : (Try.prog.info? 24).isSome = true := by kernel_rfl
  have hz : ((Try.prog.info? 24).get hi).zero.isSome = true := by kernel_rfl
  exact ⟨⟨(Try.prog.underlying 24).get hu, (Try.prog.info? 24).get hi, ((Try.prog.info? 24).get hi).zero.get hz, (Option.some_get hu).symm, (Option.some_get hi).symm, (Option.some_get hz).symm, by kernel_rfl, by kernel_rfl, by kernel_rfl, by kernel_rfl, by kernel_rfl, fun _ => ⟨(match (Try.prog.underlying 24).get hu with | .struct fs => fs | _ => #[]), by kernel_rfl, by kernel_rfl⟩, fun e h => (by cases h), fun h => (by cases h), fun h => (by cases h), fun k h => (by cases h)⟩⟩
theorem tt25 : ∀ t, tt 25 = some t → TIok Try.prog 25 t := by
  intro t h
  cases h
  have hu : (Try.prog.underlying 25).isSome = true := by kernel_rfl
  have hi : (Try.prog.info? 25).isSome = true := by kernel_rfl
  have hz : ((Try.prog.info? 25).get hi).zero.isSome = true := by kernel_rfl
  exact ⟨⟨(Try.prog.underlying 25).get hu, (Try.prog.info? 25).get hi, ((Try.prog.info? 25).get hi).zero.get hz, (Option.some_get hu).symm, (Option.some_get hi).symm, (Option.some_get hz).symm, by kernel_rfl, by kernel_rfl, by kernel_rfl, by kernel_rfl, by kernel_rfl, fun h => absurd rfl h, fun e h => (by cases h), fun h => (by cases h), fun _ => (by kernel_rfl), fun k h => (by cases h)⟩⟩
theorem tt26 : ∀ t, tt 26 = some t → TIok Try.prog 26 t := by
  intro t h
  cases h
  have hu : (Try.prog.underlying 26).isSome = true := by kernel_rfl
  have hi : (Try.prog.info? 26).isSome = true := by kernel_rfl
  have hz : ((Try.prog.info? 26).get hi).zero.isSome = true := by kernel_rfl
  exact ⟨⟨(Try.prog.underlying 26).get hu, (Try.prog.info? 26).get hi, ((Try.prog.info? 26).get hi).zero.get hz, (Option.some_get hu).symm, (Option.some_get hi).symm, (Option.some_get hz).symm, by kernel_rfl, by kernel_rfl, by kernel_rfl, by kernel_rfl, by kernel_rfl, fun h => absurd rfl h, fun e h => (by cases h), fun h => (by cases h), fun h => (by cases h), fun k h => (by cases h; kernel_rfl)⟩⟩
theorem tt29 : ∀ t, tt 29 = some t → TIok Try.prog 29 t := by
  intro t h
  cases h
  have hu : (Try.prog.underlying 29).isSome = true := by kernel_rfl
  have hi : (Try.prog.info? 29).isSome = true := by kernel_rfl
  have hz : ((Try.prog.info? 29).get hi).zero.isSome = true := by kernel_rfl
  exact ⟨⟨(Try.prog.underlying 29).get hu, (Try.prog.info? 29).get hi, ((Try.prog.info? 29).get hi).zero.get hz, (Option.some_get hu).symm, (Option.some_get hi).symm, (Option.some_get hz).symm, by kernel_rfl, by kernel_rfl, by kernel_rfl, by kernel_rfl, by kernel_rfl, fun h => absurd rfl h, fun e h => (by cases h; kernel_rfl), fun h => (by cases h), fun h => (by cases h), fun k h => (by cases h)⟩⟩
theorem tt46 : ∀ t, tt 46 = some t → TIok Try.prog 46 t := by
  intro t h
  cases h
  have hu : (Try.prog.underlying 46).isSome = true := by kernel_rfl
  have hi : (Try.prog.info? 46).isSome = true := by kernel_rfl
  have hz : ((Try.prog.info? 46).get hi).zero.isSome = true := by kernel_rfl
  exact ⟨⟨(Try.prog.underlying 46).get hu, (Try.prog.info? 46).get hi, ((Try.prog.info? 46).get hi).zero.get hz, (Option.some_get hu).symm, (Option.some_get hi).symm, (Option.some_get hz).symm, by kernel_rfl, by kernel_rfl, by kernel_rfl, by kernel_rfl, by kernel_rfl, fun h => absurd rfl h, fun e h => (by cases h; kernel_rfl), fun h => (by cases h), fun h => (by cases h), fun k h => (by cases h)⟩⟩
theorem tt47 : ∀ t, tt 47 = some t → TIok Try.prog 47 t := by
  intro t h
  cases h
  have hu : (Try.prog.underlying 47).isSome = true := by kernel_rfl
  have hi : (Try.prog.info? 47).isSome = true := by kernel_rfl
  have hz : ((Try.prog.info? 47).get hi).zero.isSome = true := by kernel_rfl
  exact ⟨⟨(Try.prog.underlying 47).get hu, (Try.prog.info? 47).get hi, ((Try.prog.info? 47).get hi).zero.get hz, (Option.some_get hu).symm, (Option.some_get hi).symm, (Option.some_get hz).symm, by kernel_rfl, by kernel_rfl, by kernel_rfl, by kernel_rfl, by kernel_rfl, fun h => absurd rfl h, fun e h => (by cases h; kernel_rfl), fun h => (by cases h), fun h => (by cases h), fun k h => (by cases h)⟩⟩
theorem tt48 : ∀ t, tt 48 = some t → TIok Try.prog 48 t := by
  intro t h
  cases h
  have hu : (Try.prog.underlying 48).isSome = true := by kernel_rfl
  have hi : (Try.prog.info? 48).isSome = true := by kernel_rfl
  have hz : ((Try.prog.info? 48).get hi).zero.isSome = true := by kernel_rfl
  exact ⟨⟨(Try.prog.underlying 48).get hu, (Try.prog.info? 48).get hi, ((Try.prog.info? 48).get hi).zero.get hz, (Option.some_get hu).symm, (Option.some_get hi).symm, (Option.some_get hz).symm, by kernel_rfl, by kernel_rfl, by kernel_rfl, by kernel_rfl, by kernel_rfl, fun h => absurd rfl h, fun e h => (by cases h; kernel_rfl), fun h => (by cases h), fun h => (by cases h), fun k h => (by cases h)⟩⟩
theorem tt50 : ∀ t, tt 50 = some t → TIok Try.prog 50 t := by
  intro t h
  cases h
  have hu : (Try.prog.underlying 50).isSome = true := by kernel_rfl
  have hi : (Try.prog.info? 50).isSome = true := by kernel_rfl
  have hz : ((Try.prog.info? 50).get hi).zero.isSome = true := by kernel_rfl
  exact ⟨⟨(Try.prog.underlying 50).get hu, (Try.prog.info? 50).get hi, ((Try.prog.info? 50).get hi).zero.get hz, (Option.some_get hu).symm, (Option.some_get hi).symm, (Option.some_get hz).symm, by kernel_rfl, by kernel_rfl, by kernel_rfl, by kernel_rfl, by kernel_rfl, fun _ => ⟨(match (Try.prog.underlying 50).get hu with | .struct fs => fs | _ => #[]), by kernel_rfl, by kernel_rfl⟩, fun e h => (by cases h), fun h => (by cases h), fun h => (by cases h), fun k h => (by cases h)⟩⟩
theorem tt51 : ∀ t, tt 51 = some t → TIok Try.prog 51 t := by
  intro t h
  cases h
  have hu : (Try.prog.underlying 51).isSome = true := by kernel_rfl
  have hi : (Try.prog.info? 51).isSome = true := by kernel_rfl
  have hz : ((Try.prog.info? 51).get hi).zero.isSome = true := by kernel_rfl
  exact ⟨⟨(Try.prog.underlying 51).get hu, (Try.prog.info? 51).get hi, ((Try.prog.info? 51).get hi).zero.get hz, (Option.some_get hu).symm, (Option.some_get hi).symm, (Option.some_get hz).symm, by kernel_rfl, by kernel_rfl, by kernel_rfl, by kernel_rfl, by kernel_rfl, fun h => absurd rfl h, fun e h => (by cases h; kernel_rfl), fun h => (by cases h), fun h => (by cases h), fun k h => (by cases h)⟩⟩
theorem tt53 : ∀ t, tt 53 = some t → TIok Try.prog 53 t := by
  intro t h
  cases h
  have hu : (Try.prog.underlying 53).isSome = true := by kernel_rfl
  have hi : (Try.prog.info? 53).isSome = true := by kernel_rfl
  have hz : ((Try.prog.info? 53).get hi).zero.isSome = true := by kernel_rfl
  exact ⟨⟨(Try.prog.underlying 53).get hu, (Try.prog.info? 53).get hi, ((Try.prog.info? 53).get hi).zero.get hz, (Option.some_get hu).symm, (Option.some_get hi).symm, (Option.some_get hz).symm, by kernel_rfl, by kernel_rfl, by kernel_rfl, by kernel_rfl, by kernel_rfl, fun _ => ⟨(match (Try.prog.underlying 53).get hu with | .struct fs => fs | _ => #[]), by kernel_rfl, by kernel_rfl⟩, fun e h => (by cases h), fun h => (by cases h), fun h => (by cases h), fun k h => (by cases h)⟩⟩
theorem tab : Tab Try.prog tt := by
  intro T t h
  have h0 := h
  unfold tt at h
  split at h
  · exact tt3 t h0
  · exact tt4 t h0
  · exact tt5 t h0
  · exact tt9 t h0
  · exact tt22 t h0
  · exact tt24 t h0
  · exact tt25 t h0
  · exact tt26 t h0
  · exact tt29 t h0
  · exact tt46 t h0
  · exact tt47 t h0
  · exact tt48 t h0
  · exact tt50 t h0
  · exact tt51 t h0
  · exact tt53 t h0
  cases h
end Go.Proofs.Ytcbbpidnocgoiaa.Dk
