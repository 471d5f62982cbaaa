/- Texts of this claim, put together: part 8. -/
import Derived.Test.YtmcflglkfgnbbaaMuE
import Derived.Test.YtmcflglkfgnbbaaMuG
/- The library's functions over rows: contracts. -/
namespace Go.Proofs.Ytmcflglkfgnbbaa.Nd
open Go Go.RowKit Go.Proofs.Ytmcflglkfgnbbaa.Eng
set_option linter.unusedVariables false
set_option linter.unusedSimpArgs false
set_option maxRecDepth 20000
def zS : Array Value := (Value.string ⟨#[]⟩).cells
def zV : Array Value := (Value.agg #[Value.string ⟨#[]⟩, Value.int .i64 0, Value.int .i64 0]).cells
def zP : Array Value := (Value.agg #[Value.int .i64 0, Value.int .u64 0]).cells
theorem rawS : InsRaw Try.prog 41 1 16 9 zS := ⟨
  fun b off n c i vb voff m vc cs vs w h1 h2 h3 h4 h5 h6 h7 h8 h9 h10 h11 h12 h13 tA tB kA kB k1 k2 k3 k4 k5 => by
    have := inss_shift b off n c i vb voff m vc cs vs w h1 h2 h3 h4 h5 (by simpa using h6) (by simpa using h7) h8 (by simpa using h9) (by simpa using h10) h11 h12 h13 tA tB kA kB k1 k2 k3 k4 k5
    simpa using this,
  fun b off n c i vb voff m vc cs vs w h1 h2 h3 h4 h5 h6 h7 h8 h9 h10 h11 => by
    have := inss_grow b off n c i vb voff m vc cs vs w h1 h2 h3 h4 h5 (by simpa using h6) (by simpa using h7) h8 h9 h10 h11
    rw [Nat.mul_one, Nat.mul_one]
    exact this,
  fun b off n c vb voff m vc vs w h1 h2 h3 h4 h5 h6 h7 h8 => by
    have := inss_room b off n c vb voff m vc vs w h1 h2 h3 (by simpa using h4) (by simpa using h5) (by simpa using h6) h7 h8
    simpa using this,
  fun base n c vb voff m vc cs vs w h1 h2 h3 h4 h5 h6 h7 h8 h9 h10 => inss_end base n c vb voff m vc cs vs w h1 h2 h3 h4 (by simpa using h5) (by simpa using h6) h7 h8 h9 h10,
  by decide, rfl, by decide⟩
theorem rawV : InsRaw Try.prog 42 3 32 33 zV := ⟨insv_shift, insv_grow, insv_room, insv_end, by decide, rfl, by decide⟩
theorem rawP : InsRaw Try.prog 83 2 16 100 zP := ⟨insp_shift, insp_grow, insp_room, insp_end, by decide, rfl, by decide⟩
theorem rawDS : DelRaw Try.prog 43 1 zS := fun b off n c i j cs w h1 h2 h3 h4 h5 h6 h7 h8 => by
  have := dels b off n c i j cs w h1 h2 h3 h4 (by simpa using h5) h6 (by simpa using h7) h8
  simpa [zS] using this
theorem rawDV : DelRaw Try.prog 44 3 zV := delv
theorem fnOk (F : Nat) (fn : Func) (h : Try.prog.funcs[F]? = some fn) (h1 : (fn.name == "runtime.NumGoroutine") = false) (h2 : fn.body.isSome = true) : ∃ fn, Try.prog.funcs[F]? = some fn ∧ (fn.name == "runtime.NumGoroutine") = false ∧ fn.body.isSome = true := ⟨fn, h, h1, h2⟩
def dIS (objs : List (TO U)) (args : List (TV U)) : Option (List ByteArray × List ByteArray × Int) := match objs, args with
  | [o0, o1], [a0, a1, a2] =>
    match o0 with
    | .row .str xs false =>
      match o1 with
      | .row .str ys false =>
        match a0 with
        | .full 0 =>
          match a1 with
          | .v (.int .i64 i) =>
            match a2 with
            | .full 1 =>
              some (xs, ys, i)
            | _ => none
          | _ => none
        | _ => none
      | _ => none
    | _ => none
  | _, _ => none
theorem dIS_ok {objs : List (TO U)} {args : List (TV U)} {xs : List ByteArray} {ys : List ByteArray} {i : Int} (h : dIS objs args = some (xs, ys, i)) : objs = [.row .str xs false, .row .str ys false] ∧ args = [.full 0, .v (.int .i64 i), .full 1] := by
  unfold dIS at h
  repeat' split at h
  all_goals first | (cases h; done) | (cases h; exact ⟨rfl, rfl⟩)
def dIV (objs : List (TO U)) (args : List (TV U)) : Option (List R33 × List R33 × Int) := match objs, args with
  | [o0, o1], [a0, a1, a2] =>
    match o0 with
    | .row .t33 xs false =>
      match o1 with
      | .row .t33 ys false =>
        match a0 with
        | .full 0 =>
          match a1 with
          | .v (.int .i64 i) =>
            match a2 with
            | .full 1 =>
              some (xs, ys, i)
            | _ => none
          | _ => none
        | _ => none
      | _ => none
    | _ => none
  | _, _ => none
theorem dIV_ok {objs : List (TO U)} {args : List (TV U)} {xs : List R33} {ys : List R33} {i : Int} (h : dIV objs args = some (xs, ys, i)) : objs = [.row .t33 xs false, .row .t33 ys false] ∧ args = [.full 0, .v (.int .i64 i), .full 1] := by
  unfold dIV at h
  repeat' split at h
  all_goals first | (cases h; done) | (cases h; exact ⟨rfl, rfl⟩)
def dIP (objs : List (TO U)) (args : List (TV U)) : Option (List R100 × List R100 × Int) := match objs, args with
  | [o0, o1], [a0, a1, a2] =>
    match o0 with
    | .row .t100 xs false =>
      match o1 with
      | .row .t100 ys false =>
        match a0 with
        | .full 0 =>
          match a1 with
          | .v (.int .i64 i) =>
            match a2 with
            | .full 1 =>
              some (xs, ys, i)
            | _ => none
          | _ => none
        | _ => none
      | _ => none
    | _ => none
  | _, _ => none
theorem dIP_ok {objs : List (TO U)} {args : List (TV U)} {xs : List R100} {ys : List R100} {i : Int} (h : dIP objs args = some (xs, ys, i)) : objs = [.row .t100 xs false, .row .t100 ys false] ∧ args = [.full 0, .v (.int .i64 i), .full 1] := by
  unfold dIP at h
  repeat' split at h
  all_goals first | (cases h; done) | (cases h; exact ⟨rfl, rfl⟩)
def dNS (objs : List (TO U)) (args : List (TV U)) : Option (List ByteArray × Int) := match objs, args with
  | [o0], [a0, a1, a2] =>
    match o0 with
    | .row .str ys false =>
      match a0 with
      | .v (.slice none 0 0) =>
        match a1 with
        | .v (.int .i64 i) =>
          match a2 with
          | .full 0 =>
            some (ys, i)
          | _ => none
        | _ => none
      | _ => none
    | _ => none
  | _, _ => none
theorem dNS_ok {objs : List (TO U)} {args : List (TV U)} {ys : List ByteArray} {i : Int} (h : dNS objs args = some (ys, i)) : objs = [.row .str ys false] ∧ args = [.v (.slice none 0 0), .v (.int .i64 i), .full 0] := by
  unfold dNS at h
  repeat' split at h
  all_goals first | (cases h; done) | (cases h; exact ⟨rfl, rfl⟩)
def dNV (objs : List (TO U)) (args : List (TV U)) : Option (List R33 × Int) := match objs, args with
  | [o0], [a0, a1, a2] =>
    match o0 with
    | .row .t33 ys false =>
      match a0 with
      | .v (.slice none 0 0) =>
        match a1 with
        | .v (.int .i64 i) =>
          match a2 with
          | .full 0 =>
            some (ys, i)
          | _ => none
        | _ => none
      | _ => none
    | _ => none
  | _, _ => none
theorem dNV_ok {objs : List (TO U)} {args : List (TV U)} {ys : List R33} {i : Int} (h : dNV objs args = some (ys, i)) : objs = [.row .t33 ys false] ∧ args = [.v (.slice none 0 0), .v (.int .i64 i), .full 0] := by
  unfold dNV at h
  repeat' split at h
  all_goals first | (cases h; done) | (cases h; exact ⟨rfl, rfl⟩)
def dNP (objs : List (TO U)) (args : List (TV U)) : Option (List R100 × Int) := match objs, args with
  | [o0], [a0, a1, a2] =>
    match o0 with
    | .row .t100 ys false =>
      match a0 with
      | .v (.slice none 0 0) =>
        match a1 with
        | .v (.int .i64 i) =>
          match a2 with
          | .full 0 =>
            some (ys, i)
          | _ => none
        | _ => none
      | _ => none
    | _ => none
  | _, _ => none
theorem dNP_ok {objs : List (TO U)} {args : List (TV U)} {ys : List R100} {i : Int} (h : dNP objs args = some (ys, i)) : objs = [.row .t100 ys false] ∧ args = [.v (.slice none 0 0), .v (.int .i64 i), .full 0] := by
  unfold dNP at h
  repeat' split at h
  all_goals first | (cases h; done) | (cases h; exact ⟨rfl, rfl⟩)
def dDS (objs : List (TO U)) (args : List (TV U)) : Option (List ByteArray × Int × Int) := match objs, args with
  | [o0], [a0, a1, a2] =>
    match o0 with
    | .row .str xs false =>
      match a0 with
      | .full 0 =>
        match a1 with
        | .v (.int .i64 i) =>
          match a2 with
          | .v (.int .i64 j) =>
            some (xs, i, j)
          | _ => none
        | _ => none
      | _ => none
    | _ => none
  | _, _ => none
theorem dDS_ok {objs : List (TO U)} {args : List (TV U)} {xs : List ByteArray} {i : Int} {j : Int} (h : dDS objs args = some (xs, i, j)) : objs = [.row .str xs false] ∧ args = [.full 0, .v (.int .i64 i), .v (.int .i64 j)] := by
  unfold dDS at h
  repeat' split at h
  all_goals first | (cases h; done) | (cases h; exact ⟨rfl, rfl⟩)
def dDV (objs : List (TO U)) (args : List (TV U)) : Option (List R33 × Int × Int) := match objs, args with
  | [o0], [a0, a1, a2] =>
    match o0 with
    | .row .t33 xs false =>
      match a0 with
      | .full 0 =>
        match a1 with
        | .v (.int .i64 i) =>
          match a2 with
          | .v (.int .i64 j) =>
            some (xs, i, j)
          | _ => none
        | _ => none
      | _ => none
    | _ => none
  | _, _ => none
theorem dDV_ok {objs : List (TO U)} {args : List (TV U)} {xs : List R33} {i : Int} {j : Int} (h : dDV objs args = some (xs, i, j)) : objs = [.row .t33 xs false] ∧ args = [.full 0, .v (.int .i64 i), .v (.int .i64 j)] := by
  unfold dDV at h
  repeat' split at h
  all_goals first | (cases h; done) | (cases h; exact ⟨rfl, rfl⟩)
def insL {α : Type} (xs ys : List α) (i : Int) : List α := xs.take i.toNat ++ (ys ++ xs.drop i.toNat)
def delL {α : Type} (xs : List α) (i j : Int) : List α := xs.take i.toNat ++ xs.drop j.toNat
def isNl : List (TV U) → Bool
  | .v (.slice none 0 0) :: _ => true
  | _ => false
def alt {U : Univ} (c : List (TV U) → Bool) (S T : Spc U) : Spc U := ⟨fun objs args k => cond (c args) (S.F objs args k) (T.F objs args k)⟩
theorem alt_ok {U : Univ} {P : Program} {f : FuncId} {c : List (TV U) → Bool} {S T : Spc U} (h : SpecOk P f S) (h2 : SpecOk P f T) : SpecOk P f (alt c S T) := by
  refine ⟨h.fn, fun objs args => ?_, fun objs args objs' res hs => ?_⟩
  · intro R k r hk
    unfold alt at hk ⊢
    dsimp only at hk ⊢
    cases hc : c args with
    | true => rw [hc] at hk; exact h.path objs args _ _ hk
    | false => rw [hc] at hk; exact h2.path objs args _ _ hk
  · unfold alt at hs
    dsimp only at hs
    cases hc : c args with
    | true => rw [hc] at hs; exact h.ok objs args _ _ hs
    | false => rw [hc] at hs; exact h2.ok objs args _ _ hs
noncomputable def sInsS0 : Spc U := .of dIS (fun (xs, ys, i) => PreIns xs.length ys.length 16 i) (fun (xs, ys, i) => [.dead xs.length, .row .str ys false, .row .str (insL xs ys i) false]) fun _ => .full 2
noncomputable def sInsV0 : Spc U := .of dIV (fun (xs, ys, i) => PreIns xs.length ys.length 32 i) (fun (xs, ys, i) => [.dead xs.length, .row .t33 ys false, .row .t33 (insL xs ys i) false]) fun _ => .full 2
noncomputable def sInsP0 : Spc U := .of dIP (fun (xs, ys, i) => PreIns xs.length ys.length 16 i) (fun (xs, ys, i) => [.dead xs.length, .row .t100 ys false, .row .t100 (insL xs ys i) false]) fun _ => .full 2
noncomputable def sInsSN : Spc U := .of dNS (fun (ys, i) => PreN ys.length i) (fun (ys, i) => [.dead ys.length, .row .str ys false]) fun _ => .full 1
noncomputable def sInsVN : Spc U := .of dNV (fun (ys, i) => PreN ys.length i) (fun (ys, i) => [.dead ys.length, .row .t33 ys false]) fun _ => .full 1
noncomputable def sInsPN : Spc U := .of dNP (fun (ys, i) => PreN ys.length i) (fun (ys, i) => [.dead ys.length, .row .t100 ys false]) fun _ => .full 1
noncomputable def sInsS : Spc U := alt isNl sInsSN sInsS0
noncomputable def sInsV : Spc U := alt isNl sInsVN sInsV0
noncomputable def sInsP : Spc U := alt isNl sInsPN sInsP0
theorem sInsSN_ok : SpecOk Try.prog 41 sInsSN := SpecOk.insN (U := U) (c := C.str) (d := dNS) rawS (by decide) rfl (fun _ => rfl) (fnOk _ _ Try.func41 (by kernel_rfl) (by kernel_rfl)) fun h => dNS_ok h
theorem sInsS0_ok : SpecOk Try.prog 41 sInsS0 := SpecOk.ins (U := U) (c := C.str) (d := dIS) rawS rfl (fun _ => rfl) (fnOk _ _ Try.func41 (by kernel_rfl) (by kernel_rfl)) fun h => dIS_ok h
theorem sInsS_ok : SpecOk Try.prog 41 sInsS := alt_ok sInsSN_ok sInsS0_ok
theorem sInsVN_ok : SpecOk Try.prog 42 sInsVN := SpecOk.insN (U := U) (c := C.t33) (d := dNV) rawV (by decide) rfl (fun _ => rfl) (fnOk _ _ Try.func42 (by kernel_rfl) (by kernel_rfl)) fun h => dNV_ok h
theorem sInsV0_ok : SpecOk Try.prog 42 sInsV0 := SpecOk.ins (U := U) (c := C.t33) (d := dIV) rawV rfl (fun _ => rfl) (fnOk _ _ Try.func42 (by kernel_rfl) (by kernel_rfl)) fun h => dIV_ok h
theorem sInsV_ok : SpecOk Try.prog 42 sInsV := alt_ok sInsVN_ok sInsV0_ok
theorem sInsPN_ok : SpecOk Try.prog 83 sInsPN := SpecOk.insN (U := U) (c := C.t100) (d := dNP) rawP (by decide) rfl (fun _ => rfl) (fnOk _ _ Try.func83 (by kernel_rfl) (by kernel_rfl)) fun h => dNP_ok h
theorem sInsP0_ok : SpecOk Try.prog 83 sInsP0 := SpecOk.ins (U := U) (c := C.t100) (d := dIP) rawP rfl (fun _ => rfl) (fnOk _ _ Try.func83 (by kernel_rfl) (by kernel_rfl)) fun h => dIP_ok h
theorem sInsP_ok : SpecOk Try.prog 83 sInsP := alt_ok sInsPN_ok sInsP0_ok
noncomputable def sDelS : Spc U := .of dDS (fun (xs, i, j) => PreDel xs.length i j) (fun (xs, i, j) => [.dead xs.length, .row .str (delL xs i j) false]) fun _ => .full 1
noncomputable def sDelV : Spc U := .of dDV (fun (xs, i, j) => PreDel xs.length i j) (fun (xs, i, j) => [.dead xs.length, .row .t33 (delL xs i j) false]) fun _ => .full 1
theorem sDelS_ok : SpecOk Try.prog 43 sDelS := SpecOk.del (U := U) (c := C.str) (d := dDS) rawDS (by decide) rfl rfl (fun _ => rfl) (fnOk _ _ Try.func43 (by kernel_rfl) (by kernel_rfl)) fun h => dDS_ok h
theorem sDelV_ok : SpecOk Try.prog 44 sDelV := SpecOk.del (U := U) (c := C.t33) (d := dDV) rawDV (by decide) rfl rfl (fun _ => rfl) (fnOk _ _ Try.func44 (by kernel_rfl) (by kernel_rfl)) fun h => dDV_ok h
end Go.Proofs.Ytmcflglkfgnbbaa.Nd

/- Searching, copying. -/
namespace Go.Proofs.Ytmcflglkfgnbbaa.Nd
open Go Go.RowKit Go.Proofs.Ytmcflglkfgnbbaa.Eng
set_option linter.unusedVariables false
set_option linter.unusedSimpArgs false
set_option maxRecDepth 20000
def an0 : Ann := ⟨fun _ => 0, fun _ => 0, fun _ => [], false⟩
def anO : Ann := ⟨fun _ => 0, fun _ => 0, fun _ => [], true⟩
def E0 : FuncId → Option (Spc U) := fun _ => none
theorem E0_ok : ∀ f S, E0 f = some S → SpecOk Try.prog f S := fun f S h => by cases h
/-! ### Rows that are none just if nothing is in them -/
def nvF {α : Type} (k : Nat) (xs : List α) : TV U := match xs with
  | [] => nlv
  | _ :: _ => .full k
def nvR (c : C) (xs : List (U.T c)) : List (TO U) := match xs with
  | [] => []
  | _ :: _ => [.row c xs false]
def nnE {α : Type} (xs : List α) : Nat := match xs with
  | [] => 0
  | _ :: _ => 1
def dNv1 (c : C) (objs : List (TO U)) (args : List (TV U)) : Option (List (U.T c)) := match objs, args with
  | [], [a] => tkL c a
  | _, _ => none
theorem dNv1_ok {c : C} {objs : List (TO U)} {args : List (TV U)} {xs : List (U.T c)} (h : dNv1 c objs args = some xs) : objs = [] ∧ args = [nvL c xs] := by
  unfold dNv1 at h
  split at h
  · exact ⟨rfl, by rw [tkL_ok h]⟩
  · cases h
def Sn (n : Nat) : Prop := n ≤ 1000000000
instance (n : Nat) : Decidable (Sn n) := by unfold Sn; infer_instance
theorem e37 (xs : List ByteArray) : evFn X E0 anO lp0 Try.f37 [] [nvL .str xs] (fun o v => some (o, v)) = if (0 + xs.length) * 16 ≤ 140737488355328 then some (nvR .str xs, nvF 0 xs) else none := by cases xs <;> kernel_rfl
theorem e38 (xs : List R33) : evFn X E0 anO lp0 Try.f38 [] [nvL .t33 xs] (fun o v => some (o, v)) = if (0 + xs.length) * 32 ≤ 140737488355328 then some (nvR .t33 xs, nvF 0 xs) else none := by cases xs <;> kernel_rfl
theorem e39 (xs : List Int) : evFn X E0 anO lp0 Try.f39 [] [nvL .i64 xs] (fun o v => some (o, v)) = if (0 + xs.length) * 8 ≤ 140737488355328 then some (nvR .i64 xs, nvF 0 xs) else none := by cases xs <;> kernel_rfl
def sCloS : Spc U := .of (dNv1 .str) (fun xs => Sn xs.length) (fun xs => nvR .str xs) fun xs => nvF 0 xs
def sCloV : Spc U := .of (dNv1 .t33) (fun xs => Sn xs.length) (fun xs => nvR .t33 xs) fun xs => nvF 0 xs
def sCloI : Spc U := .of (dNv1 .i64) (fun xs => Sn xs.length) (fun xs => nvR .i64 xs) fun xs => nvF 0 xs
theorem sCloS_ok : SpecOk Try.prog 37 sCloS := by
  refine fn_ok X_ok mixed E0_ok anO lp0 Try.func37 (by kernel_rfl) (by kernel_rfl) (lp0_ok (by kernel_rfl)) fun objs args xs hx hp => ?_
  obtain ⟨rfl, rfl⟩ := dNv1_ok hx
  exact (e37 xs).trans (if_pos (by have : xs.length ≤ 1000000000 := hp; omega))
theorem sCloV_ok : SpecOk Try.prog 38 sCloV := by
  refine fn_ok X_ok mixed E0_ok anO lp0 Try.func38 (by kernel_rfl) (by kernel_rfl) (lp0_ok (by kernel_rfl)) fun objs args xs hx hp => ?_
  obtain ⟨rfl, rfl⟩ := dNv1_ok hx
  exact (e38 xs).trans (if_pos (by have : xs.length ≤ 1000000000 := hp; omega))
theorem sCloI_ok : SpecOk Try.prog 39 sCloI := by
  refine fn_ok X_ok mixed E0_ok anO lp0 Try.func39 (by kernel_rfl) (by kernel_rfl) (lp0_ok (by kernel_rfl)) fun objs args xs hx hp => ?_
  obtain ⟨rfl, rfl⟩ := dNv1_ok hx
  exact (e39 xs).trans (if_pos (by have : xs.length ≤ 1000000000 := hp; omega))
/-! ### A node's own copy -/
def Ec : FuncId → Option (Spc U)
  | 37 => some sCloS
  | 38 => some sCloV
  | 39 => some sCloI
  | _ => none
theorem Ec_ok : ∀ f S, Ec f = some S → SpecOk Try.prog f S := fun f S h => by
  unfold Ec at h
  split at h
  · cases h; exact sCloS_ok
  · cases h; exact sCloV_ok
  · cases h; exact sCloI_ok
  · cases h
def ndV (n : R29) : TV U := .agg [.v (.bool n.Leaf), nvL .str n.Keys, nvL .t33 n.Vals, nvL .i64 n.Kids]
/-- The same, with rows of its own. -/
def ndO (n : R29) : List (TO U) := nvR .str n.Keys ++ (nvR .t33 n.Vals ++ nvR .i64 n.Kids)
def ndW (n : R29) : TV U := .agg [.v (.bool n.Leaf), nvF 0 n.Keys, nvF (nnE n.Keys) n.Vals, nvF (nnE n.Keys + nnE n.Vals) n.Kids]
def tkN : TV U → Option R29
  | .agg [.v (.bool b), k, v, i] => (tkL .str k).bind fun k => (tkL .t33 v).bind fun v => (tkL .i64 i).map fun i => ⟨b, k, v, i⟩
  | _ => none
theorem tkN_ok {v : TV U} {n : R29} (h : tkN v = some n) : v = ndV n := by
  unfold tkN at h
  split at h
  · obtain ⟨k', h1, h⟩ := Option.bind_eq_some_iff.1 h
    obtain ⟨v', h2, h⟩ := Option.bind_eq_some_iff.1 h
    obtain ⟨i', h3, rfl⟩ := Option.map_eq_some_iff.1 h
    rw [tkL_ok h1, tkL_ok h2, tkL_ok h3]
    rfl
  · cases h
def dNd (objs : List (TO U)) (args : List (TV U)) : Option R29 := match objs, args with
  | [], [a] => tkN a
  | _, _ => none
theorem dNd_ok {objs : List (TO U)} {args : List (TV U)} {n : R29} (h : dNd objs args = some n) : objs = [] ∧ args = [ndV n] := by
  unfold dNd at h
  split at h
  · exact ⟨rfl, by rw [tkN_ok h]⟩
  · cases h
def PreNd (n : R29) : Prop := n.Keys.length ≤ 1000000000 ∧ n.Vals.length ≤ 1000000000 ∧ n.Kids.length ≤ 1000000000
noncomputable instance (n : R29) : Decidable (PreNd n) := Classical.propDecidable _
theorem e10 (n : R29) : evFn X Ec anO lp0 Try.f10 [] [ndV n] (fun o v => some (o, v)) =
    if Sn n.Keys.length then if Sn n.Vals.length then if Sn n.Kids.length then some (ndO n, ndW n) else none else none else none := by
  obtain ⟨b, k, v, i⟩ := n
  cases k <;> cases v <;> cases i <;> kernel_rfl
noncomputable def sCopy : Spc U := .of dNd (fun n => PreNd n) ndO ndW
theorem sCopy_ok : SpecOk Try.prog 10 sCopy := by
  refine fn_ok X_ok mixed Ec_ok anO lp0 Try.func10 (by kernel_rfl) (by kernel_rfl) (lp0_ok (by kernel_rfl)) fun objs args n hx hp => ?_
  obtain ⟨rfl, rfl⟩ := dNd_ok hx
  obtain ⟨h1, h2, h3⟩ := hp
  refine (e10 n).trans ?_
  have h1 : Sn n.Keys.length := h1
  have h2 : Sn n.Vals.length := h2
  have h3 : Sn n.Kids.length := h3
  rw [if_pos h1, if_pos h2, if_pos h3]
end Go.Proofs.Ytmcflglkfgnbbaa.Nd

/- No facts are nothing: all of it is run. -/
namespace Go.Proofs.Ytmcflglkfgnbbaa.Nd
open Go Go.RowKit Go.Proofs.Ytmcflglkfgnbbaa.Eng
set_option linter.unusedVariables false
set_option linter.unusedSimpArgs false
set_option maxRecDepth 20000
def rc32 : Ann := ⟨fun _ => 0, fun _ => 0, fun _ => [], false⟩
def rc69 : Ann := ⟨fun _ => 0, fun _ => 0, fun _ => [], false⟩
def rc36 : Ann := ⟨fun | 0 => 460 | _ => 0, fun | 0 => 12 | _ => 0, fun _ => [], false⟩
def rc35 : Ann := ⟨fun _ => 0, fun _ => 0, fun _ => [], false⟩
def rc33 : Ann := ⟨fun _ => 0, fun _ => 0, fun _ => [], false⟩
def rc34 : Ann := ⟨fun _ => 0, fun _ => 0, fun _ => [], false⟩
def rc65 : Ann := ⟨fun _ => 0, fun _ => 0, fun _ => [], false⟩
def rc60 : Ann := ⟨fun _ => 0, fun _ => 0, fun _ => [], false⟩
def rc81 : Ann := ⟨fun _ => 0, fun _ => 0, fun _ => [], false⟩
def rc90 : Ann := ⟨fun | 0 => 1799 | _ => 0, fun | 0 => 967 | _ => 0, fun _ => [], false⟩
def rc91 : Ann := ⟨fun _ => 0, fun _ => 0, fun _ => [], false⟩
def rc82 : Ann := ⟨fun _ => 0, fun _ => 0, fun _ => [], false⟩
def rc70 : Ann := ⟨fun _ => 0, fun _ => 0, fun _ => [], false⟩
def rc86 : Ann := ⟨fun _ => 0, fun _ => 0, fun _ => [], false⟩
def rc95 : Ann := ⟨fun | 0 => 229588 | _ => 0, fun | 0 => 192 | _ => 0, fun _ => [], false⟩
def rc96 : Ann := ⟨fun _ => 0, fun _ => 0, fun _ => [], false⟩
def rc71 : Ann := ⟨fun | 0 => 252 | _ => 0, fun | 0 => 48 | _ => 0, fun _ => [], false⟩
/-- One element put into a row that is none. -/
def sInsC : Spc U := .of dNP (fun (ys, i) => ys.length = 1 ∧ i = 0) (fun (ys, i) => [.dead ys.length, .row .t100 ys false]) fun _ => .full 1
theorem sInsC_ok : SpecOk Try.prog 83 sInsC := by
  refine SpecOk.of sInsPN_ok fun objs args x hx hp => ?_
  obtain ⟨ys, i⟩ := x
  obtain ⟨h1, rfl⟩ := hp
  have h1 : ys.length = 1 := h1
  unfold sInsPN Spc.of
  dsimp only
  rw [hx]
  exact if_pos (show PreN ys.length 0 from ⟨h1, rfl⟩)
def E0c : FuncId → Option (Spc U)
  | 83 => some sInsC
  | _ => none
theorem E0c_ok : ∀ f S, E0c f = some S → SpecOk Try.prog f S := fun f S h => by
  unfold E0c at h
  split at h
  · cases h; exact sInsC_ok
  · cases h
noncomputable def fsC : FuncId → Option (Func × Ann)
  | 32 => some (Try.f32, rc32)
  | 69 => some (Try.f69, rc69)
  | 36 => some (Try.f36, rc36)
  | 35 => some (Try.f35, rc35)
  | 33 => some (Try.f33, rc33)
  | 34 => some (Try.f34, rc34)
  | 65 => some (Try.f65, rc65)
  | 60 => some (Try.f60, rc60)
  | 81 => some (Try.f81, rc81)
  | 90 => some (Try.f90, rc90)
  | 91 => some (Try.f91, rc91)
  | 82 => some (Try.f82, { rc82 with own := true })
  | 70 => some (Try.f70, rc70)
  | 86 => some (Try.f86, rc86)
  | 95 => some (Try.f95, rc95)
  | 96 => some (Try.f96, rc96)
  | 71 => some (Try.f71, rc71)
  | _ => none
theorem fsC_ok : ∀ f fn an, fsC f = some (fn, an) → Runs Try.prog f fn := fun f fn an h => by
  unfold fsC at h
  split at h
  · cases h; exact ⟨Try.func32, by kernel_rfl, by kernel_rfl, by kernel_rfl⟩
  · cases h; exact ⟨Try.func69, by kernel_rfl, by kernel_rfl, by kernel_rfl⟩
  · cases h; exact ⟨Try.func36, by kernel_rfl, by kernel_rfl, by kernel_rfl⟩
  · cases h; exact ⟨Try.func35, by kernel_rfl, by kernel_rfl, by kernel_rfl⟩
  · cases h; exact ⟨Try.func33, by kernel_rfl, by kernel_rfl, by kernel_rfl⟩
  · cases h; exact ⟨Try.func34, by kernel_rfl, by kernel_rfl, by kernel_rfl⟩
  · cases h; exact ⟨Try.func65, by kernel_rfl, by kernel_rfl, by kernel_rfl⟩
  · cases h; exact ⟨Try.func60, by kernel_rfl, by kernel_rfl, by kernel_rfl⟩
  · cases h; exact ⟨Try.func81, by kernel_rfl, by kernel_rfl, by kernel_rfl⟩
  · cases h; exact ⟨Try.func90, by kernel_rfl, by kernel_rfl, by kernel_rfl⟩
  · cases h; exact ⟨Try.func91, by kernel_rfl, by kernel_rfl, by kernel_rfl⟩
  · cases h; exact ⟨Try.func82, by kernel_rfl, by kernel_rfl, by kernel_rfl⟩
  · cases h; exact ⟨Try.func70, by kernel_rfl, by kernel_rfl, by kernel_rfl⟩
  · cases h; exact ⟨Try.func86, by kernel_rfl, by kernel_rfl, by kernel_rfl⟩
  · cases h; exact ⟨Try.func95, by kernel_rfl, by kernel_rfl, by kernel_rfl⟩
  · cases h; exact ⟨Try.func96, by kernel_rfl, by kernel_rfl, by kernel_rfl⟩
  · cases h; exact ⟨Try.func71, by kernel_rfl, by kernel_rfl, by kernel_rfl⟩
  · cases h
def an8 : Ann := an0
set_option maxHeartbeats 0 in
theorem e8 (t n : Int) : evFn X (runE X E0c fsC 60 3 20) an8 lp0 Try.f8 [] [.v (.int .i64 t), .v (.int .i64 n)] (fun o v => some (o, v)) = some ([], .v (.bool true)) := by kernel_rfl
def dTN (objs : List (TO U)) (args : List (TV U)) : Option (Int × Int) := match objs, args with
  | [], [a0, a1] =>
    match a0 with
    | .v (.int .i64 t) =>
      match a1 with
      | .v (.int .i64 n) =>
        some (t, n)
      | _ => none
    | _ => none
  | _, _ => none
theorem dTN_ok {objs : List (TO U)} {args : List (TV U)} {t : Int} {n : Int} (h : dTN objs args = some (t, n)) : objs = [] ∧ args = [.v (.int .i64 t), .v (.int .i64 n)] := by
  unfold dTN at h
  repeat' split at h
  all_goals first | (cases h; done) | (cases h; exact ⟨rfl, rfl⟩)
def sLaw8 : Spc U := .of dTN (fun _ => True) (fun _ => []) fun _ => .v (.bool true)
theorem sLaw8_ok : SpecOk Try.prog 8 sLaw8 := by
  refine fn_ok X_ok mixed (runE_ok (N := 60) (k := 3) X_ok mixed E0c_ok fsC_ok 20) an8 lp0 Try.func8 (by kernel_rfl) (by kernel_rfl) (lp0_ok (by kernel_rfl)) fun objs args x hx hp => ?_
  obtain ⟨t, n⟩ := x
  obtain ⟨rfl, rfl⟩ := dTN_ok hx
  exact e8 t n
theorem law8 (t n : Int) : HCall Try.prog 8 [] [.v (.int .i64 t), .v (.int .i64 n)] [] (.v (.bool true)) :=
  (sLaw8_ok.ok [] [.v (.int .i64 t), .v (.int .i64 n)] [] (.v (.bool true)) rfl rfl rfl rfl).1
end Go.Proofs.Ytmcflglkfgnbbaa.Nd

