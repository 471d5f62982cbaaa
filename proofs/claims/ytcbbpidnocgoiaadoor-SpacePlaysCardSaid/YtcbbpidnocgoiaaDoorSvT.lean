/- Kinds of elements, and types. -/
import Derived.Test.YtcbbpidnocgoiaaDoorEvJ
import Derived.Test.YtcbbpidnocgoiaaDoorProg
namespace Go.Proofs.YtcbbpidnocgoiaaDoor.Sv
open Go Go.RowKit Go.Proofs.YtcbbpidnocgoiaaDoor.Eng
set_option linter.unusedVariables false
set_option linter.unusedSimpArgs false
inductive C where
  | bool
  | t29
  | u64
  deriving DecidableEq
structure R29 where
  What : Int
  At : Int
abbrev T : C → Type
  | .bool => Bool
  | .t29 => R29
  | .u64 => Int
def sz : C → Nat
  | .bool => 1
  | .t29 => 2
  | .u64 => 1
def encS_bool (x : Bool) : List SV := [.v (.bool x)]
def encS_t29 (x : R29) : List SV := [.v (.int .i64 x.What), .v (.int .i64 x.At)]
def encS_u64 (x : Int) : List SV := [.v (.int .u64 x)]
def encS : (c : C) → T c → List SV
  | .bool, x => encS_bool x
  | .t29, x => encS_t29 x
  | .u64, x => encS_u64 x
abbrev U : Univ := ⟨C, inferInstance, T, sz, encS⟩
def enc : (c : C) → T c → List (TV U)
  | .bool, x => [.v (.bool x)]
  | .t29, x => [.v (.int .i64 x.What), .v (.int .i64 x.At)]
  | .u64, x => [.v (.int .u64 x)]
def shape : C → List (Option C)

  | _ => []
def dec_bool : List (TV U) → Option Bool
  | [.v (.bool a1)] => some a1
  | _ => none
def dec_t29 : List (TV U) → Option R29
  | [.v (.int .i64 a2), .v (.int .i64 a3)] => some ⟨a2, a3⟩
  | _ => none
def dec_u64 : List (TV U) → Option Int
  | [.v (.int .u64 a1)] => some a1
  | _ => none
def dec0 : (c : C) → List (TV U) → Option (T c)
  | .bool, l => dec_bool l
  | .t29, l => dec_t29 l
  | .u64, l => dec_u64 l
def dec (c : C) (l : List (TV U)) : Option (T c) := dec0 c (prepL (shape c) l)
def elc : Nat → Option C
  | 4 => some .bool
  | 29 => some .t29
  | 39 => some .u64
  | _ => none
def sty : Nat → Bool
  | _ => false
def tt : Nat → Option TI
  | 3 => some ⟨false, 1, 8, [.v (.int .i64 0)], [], none, false, false, some .i64⟩
  | 4 => some ⟨false, 1, 1, [.v (.bool false)], [], none, true, false, none⟩
  | 22 => some ⟨false, 1, 24, [.v (.slice none 0 0)], [], some 29, false, false, none⟩
  | 23 => some ⟨false, 1, 8, [.v (.pointer none)], [], none, false, true, none⟩
  | 25 => some ⟨false, 1, 24, [.v (.slice none 0 0)], [], some 4, false, false, none⟩
  | 29 => some ⟨true, 2, 16, [.v (.int .i64 0), .v (.int .i64 0)], [(0, 3), (1, 3)], none, false, false, none⟩
  | 36 => some ⟨false, 1, 24, [.v (.slice none 0 0)], [], some 39, false, false, none⟩
  | 38 => some ⟨true, 2, 32, [.v (.int .i64 0), .v (.slice none 0 0)], [(0, 3), (1, 36)], none, false, false, none⟩
  | 39 => some ⟨false, 1, 8, [.v (.int .u64 0)], [], none, false, false, some .u64⟩
  | _ => none
theorem tt3 : ∀ t, tt 3 = some t → TIok Tryd.prog 3 t := by
  intro t h
  cases h
  have hu : (Tryd.prog.underlying 3).isSome = true := by kernel_rfl
  have hi : (Tryd.prog.info? 3).isSome = true := by kernel_rfl
  have hz : ((Tryd.prog.info? 3).get hi).zero.isSome = true := by kernel_rfl
  exact ⟨⟨(Tryd.prog.underlying 3).get hu, (Tryd.prog.info? 3).get hi, ((Tryd.prog.info? 3).get hi).zero.get hz, (Option.some_get hu).symm, (Option.some_get hi).symm, (Option.some_get hz).symm, by kernel_rfl, by kernel_rfl, by kernel_rfl, by kernel_rfl, by kernel_rfl, fun h => absurd rfl h, fun e h => (by cases h), fun h => (by cases h), fun h => (by cases h), fun k h => (by cases h; kernel_rfl)⟩⟩
theorem tt4 : ∀ t, tt 4 = some t → TIok Tryd.prog 4 t := by
  intro t h
  cases h
  have hu : (Tryd.prog.underlying 4).isSome = true := by kernel_rfl
  have hi : (Tryd.prog.info? 4).isSome = true := by kernel_rfl
  have hz : ((Tryd.prog.info? 4).get hi).zero.isSome = true := by kernel_rfl
  exact ⟨⟨(Tryd.prog.underlying 4).get hu, (Tryd.prog.info? 4).get hi, ((Tryd.prog.info? 4).get hi).zero.get hz, (Option.some_get hu).symm, (Option.some_get hi).symm, (Option.some_get hz).symm, by kernel_rfl, by kernel_rfl, by kernel_rfl, by kernel_rfl, by kernel_rfl, fun h => absurd rfl h, fun e h => (by cases h), fun _ => (by kernel_rfl), fun h => (by cases h), fun k h => (by cases h)⟩⟩
theorem tt22 : ∀ t, tt 22 = some t → TIok Tryd.prog 22 t := by
  intro t h
  cases h
  have hu : (Tryd.prog.underlying 22).isSome = true := by kernel_rfl
  have hi : (Tryd.prog.info? 22).isSome = true := by kernel_rfl
  have hz : ((Tryd.prog.info? 22).get hi).zero.isSome = true := by kernel_rfl
  exact ⟨⟨(Tryd.prog.underlying 22).get hu, (Tryd.prog.info? 22).get hi, ((Tryd.prog.info? 22).get hi).zero.get hz, (Option.some_get hu).symm, (Option.some_get hi).symm, (Option.some_get hz).symm, by kernel_rfl, by kernel_rfl, by kernel_rfl, by kernel_rfl, by kernel_rfl, fun h => absurd rfl h, fun e h => (by cases h; kernel_rfl), fun h => (by cases h), fun h => (by cases h), fun k h => (by cases h)⟩⟩
theorem tt23 : ∀ t, tt 23 = some t → TIok Tryd.prog 23 t := by
  intro t h
  cases h
  have hu : (Tryd.prog.underlying 23).isSome = true := by kernel_rfl
  have hi : (Tryd.prog.info? 23).isSome = true := by kernel_rfl
  have hz : ((Tryd.prog.info? 23).get hi).zero.isSome = true := by kernel_rfl
  exact ⟨⟨(Tryd.prog.underlying 23).get hu, (Tryd.prog.info? 23).get hi, ((Tryd.prog.info? 23).get hi).zero.get hz, (Option.some_get hu).symm, (Option.some_get hi).symm, (Option.some_get hz).symm, by kernel_rfl, by kernel_rfl, by kernel_rfl, by kernel_rfl, by kernel_rfl, fun h => absurd rfl h, fun e h => (by cases h), fun h => (by cases h), fun _ => (by kernel_rfl), fun k h => (by cases h)⟩⟩
theorem tt25 : ∀ t, tt 25 = some t → TIok Tryd.prog 25 t := by
  intro t h
  cases h
  have hu : (Tryd.prog.underlying 25).isSome = true := by kernel_rfl
  have hi : (Tryd.prog.info? 25).isSome = true := by kernel_rfl
  have hz : ((Tryd.prog.info? 25).get hi).zero.isSome = true := by kernel_rfl
  exact ⟨⟨(Tryd.prog.underlying 25).get hu, (Tryd.prog.info? 25).get hi, ((Tryd.prog.info? 25).get hi).zero.get hz, (Option.some_get hu).symm, (Option.some_get hi).symm, (Option.some_get hz).symm, by kernel_rfl, by kernel_rfl, by kernel_rfl, by kernel_rfl, by kernel_rfl, fun h => absurd rfl h, fun e h => (by cases h; kernel_rfl), fun h => (by cases h), fun h => (by cases h), fun k h => (by cases h)⟩⟩
theorem tt29 : ∀ t, tt 29 = some t → TIok Tryd.prog 29 t := by
  intro t h
  cases h
  have hu : (Tryd.prog.underlying 29).isSome = true := by kernel_rfl
  have hi : (Tryd.prog.info? 29).isSome = true := by kernel_rfl
  have hz : ((Tryd.prog.info? 29).get hi).zero.isSome = true := by kernel_rfl
  exact ⟨⟨(Tryd.prog.underlying 29).get hu, (Tryd.prog.info? 29).get hi, ((Tryd.prog.info? 29).get hi).zero.get hz, (Option.some_get hu).symm, (Option.some_get hi).symm, (Option.some_get hz).symm, by kernel_rfl, by kernel_rfl, by kernel_rfl, by kernel_rfl, by kernel_rfl, fun _ => ⟨(match (Tryd.prog.underlying 29).get hu with | .struct fs => fs | _ => #[]), by kernel_rfl, by kernel_rfl⟩, fun e h => (by cases h), fun h => (by cases h), fun h => (by cases h), fun k h => (by cases h)⟩⟩
theorem tt36 : ∀ t, tt 36 = some t → TIok Tryd.prog 36 t := by
  intro t h
  cases h
  have hu : (Tryd.prog.underlying 36).isSome = true := by kernel_rfl
  have hi : (Tryd.prog.info? 36).isSome = true := by kernel_rfl
  have hz : ((Tryd.prog.info? 36).get hi).zero.isSome = true := by kernel_rfl
  exact ⟨⟨(Tryd.prog.underlying 36).get hu, (Tryd.prog.info? 36).get hi, ((Tryd.prog.info? 36).get hi).zero.get hz, (Option.some_get hu).symm, (Option.some_get hi).symm, (Option.some_get hz).symm, by kernel_rfl, by kernel_rfl, by kernel_rfl, by kernel_rfl, by kernel_rfl, fun h => absurd rfl h, fun e h => (by cases h; kernel_rfl), fun h => (by cases h), fun h => (by cases h), fun k h => (by cases h)⟩⟩
theorem tt38 : ∀ t, tt 38 = some t → TIok Tryd.prog 38 t := by
  intro t h
  cases h
  have hu : (Tryd.prog.underlying 38).isSome = true := by kernel_rfl
  have hi : (Tryd.prog.info? 38).isSome = true := by kernel_rfl
  have hz : ((Tryd.prog.info? 38).get hi).zero.isSome = true := by kernel_rfl
  exact ⟨⟨(Tryd.prog.underlying 38).get hu, (Tryd.prog.info? 38).get hi, ((Tryd.prog.info? 38).get hi).zero.get hz, (Option.some_get hu).symm, (Option.some_get hi).symm, (Option.some_get hz).symm, by kernel_rfl, by kernel_rfl, by kernel_rfl, by kernel_rfl, by kernel_rfl, fun _ => ⟨(match (Tryd.prog.underlying 38).get hu with | .struct fs => fs | _ => #[]), by kernel_rfl, by kernel_rfl⟩, fun e h => (by cases h), fun h => (by cases h), fun h => (by cases h), fun k h => (by cases h)⟩⟩
theorem tt39 : ∀ t, tt 39 = some t → TIok Tryd.prog 39 t := by
  intro t h
  cases h
  have hu : (Tryd.prog.underlying 39).isSome = true := by kernel_rfl
  have hi : (Tryd.prog.info? 39).isSome = true := by kernel_rfl
  have hz : ((Tryd.prog.info? 39).get hi).zero.isSome = true := by kernel_rfl
  exact ⟨⟨(Tryd.prog.underlying 39).get hu, (Tryd.prog.info? 39).get hi, ((Tryd.prog.info? 39).get hi).zero.get hz, (Option.some_get hu).symm, (Option.some_get hi).symm, (Option.some_get hz).symm, by kernel_rfl, by kernel_rfl, by kernel_rfl, by kernel_rfl, by kernel_rfl, fun h => absurd rfl h, fun e h => (by cases h), fun h => (by cases h), fun h => (by cases h), fun k h => (by cases h; kernel_rfl)⟩⟩
theorem tab : Tab Tryd.prog tt := by
  intro T t h
  have h0 := h
  unfold tt at h
  split at h
  · exact tt3 t h0
  · exact tt4 t h0
  · exact tt22 t h0
  · exact tt23 t h0
  · exact tt25 t h0
  · exact tt29 t h0
  · exact tt36 t h0
  · exact tt38 t h0
  · exact tt39 t h0
  cases h
abbrev X : Cx := ⟨U, tt, sty, enc, dec, elc⟩
theorem cl_bool (x : Bool) : closedL (encS_bool x) = true := by
  unfold encS_bool
  simp [closedL, SV.closed]
theorem cl_t29 (x : R29) : closedL (encS_t29 x) = true := by
  unfold encS_t29
  simp [closedL, SV.closed]
theorem cl_u64 (x : Int) : closedL (encS_u64 x) = true := by
  unfold encS_u64
  simp [closedL, SV.closed]
theorem enc_ok : ∀ (c : C) (x : T c) (rl : Nat → Nat), itpL rl (enc c x) = encS c x
  | .bool, x, rl => rfl
  | .t29, x, rl => rfl
  | .u64, x, rl => rfl
theorem dec_ok : ∀ (c : C) (l : List (TV U)) (x : T c) (rl : Nat → Nat), dec0 c l = some x → itpL rl l = encS c x
  | .bool, l, x, rl, h => by
    have h : dec_bool l = some x := h
    unfold dec_bool at h
    split at h
    · cases h; rfl
    · cases h
  | .t29, l, x, rl, h => by
    have h : dec_t29 l = some x := h
    unfold dec_t29 at h
    split at h
    · cases h; rfl
    · cases h
  | .u64, l, x, rl, h => by
    have h : dec_u64 l = some x := h
    unfold dec_u64 at h
    split at h
    · cases h; rfl
    · cases h
theorem X_ok : CxOk Tryd.prog X where
  tab := tab
  str := fun T h => by
    have h : sty T = true := h
    unfold sty at h
    split at h <;> first | (cases h; done) | kernel_rfl
  enc := fun c x rl => enc_ok c x rl
  encb := fun c x => by cases c <;> rfl
  dec := fun c l x rl h g H vs hv => by
    have h : dec0 c (prepL (shape c) l) = some x := h
    have := repL_prep (shape c) l hv
    rw [dec_ok c _ x rl h] at this
    exact this
  len := fun c x => by cases c <;> rfl
  pos := fun c => by cases c <;> decide
  one := fun c x => by cases c <;> rfl
  closed := fun c x => by
    cases c
    · exact cl_bool x
    · exact cl_t29 x
    · exact cl_u64 x
theorem mixed : Tryd.prog.follows .mixedOrders = true := rfl
end Go.Proofs.YtcbbpidnocgoiaaDoor.Sv
