/- Texts of this claim, put together: part 11. -/
import Derived.ChangeSlices
import Derived.ChangeSame
import Derived.Lib.SmallJoins
import Derived.Below
import Derived.Test.YtmcflglkfgnbbaaMvE
import Derived.Test.YtmcflglkfgnbbaaMvH
import Derived.Test.YtmcflglkfgnbbaaMvJ
/- Sets as bytes: Get of what was put. -/
namespace Go.Proofs.Ytmcflglkfgnbbaa.Bt
open Go Go.RowKit Go.Proofs.Ytmcflglkfgnbbaa.Eng Go.Proofs.Ytmcflglkfgnbbaa.Nd
set_option linter.unusedVariables false
set_option linter.unusedSimpArgs false
set_option maxRecDepth 20000
noncomputable def E28 : FuncId → Option (Spc U)
  | 52 => some sNew
  | 53 => some sNv
  | 54 => some sErr
  | 57 => some sEd
  | 63 => some sFxv
  | _ => none
theorem E28_ok : ∀ f S, E28 f = some S → SpecOk Try.prog f S := fun f S h => by
  unfold E28 at h
  split at h
  · cases h; exact sNew_ok
  · cases h; exact sNv_ok
  · cases h; exact sErr_ok
  · cases h; exact sEd_ok
  · cases h; exact sFxv_ok
  · cases h
def an28 : Ann := ⟨fun | 0 => 12404 | _ => 0, fun | 0 => 60 | _ => 0, fun _ => [], false⟩
def S28 (ps : List R100) (s : ByteArray) (nx m i : Int) : TS U := mkS 52 [(2, .ref 0 0 0), (4, .ref 1 0 0), (5, nvF 2 ps), (6, .v (.int .i64 nx)), (12, .v (.int .u64 m)), (13, .v (.int .u64 i))] ([.cells [nlv] false, Rd.ob ⟨s, 0⟩] ++ nvR .t100 ps) 0
def Z28 (ps : List R100) (s : ByteArray) : TS U := mkS 52 [(2, .ref 0 0 0), (4, .ref 1 0 0), (5, nvF 2 ps)] ([.cells [nlv] false, Rd.ob ⟨s, 0⟩] ++ nvR .t100 ps) 0
theorem r28 (lp : Lp U) (N : Nat) (ps : List R100) (s : ByteArray) (nx m i : Int) : fnLoop X E28 an28 lp Try.f28 0 N.succ (S28 ps s nx m i) =
    cond (decide (i < m)) (if PNv ⟨s, 0⟩ 16384 then (if PFx ⟨nrN s, 0⟩ 8 then (if True then (cond (decide (fxV (nrN s) = 0)) none (cond (decide (16384 ≤ IntKind.i64.wrap (nx + IntKind.i64.wrap (nvN s)))) none (if (ps.length + 1) * 16 ≤ 140737488355328 then
      fnLoop X E28 an28 lp Try.f28 0 N (S28 (ps ++ [⟨IntKind.i64.wrap (nx + IntKind.i64.wrap (nvN s)), fxV (nrN s)⟩]) (fxQ (nrN s)) (IntKind.i64.wrap (IntKind.i64.wrap (nx + IntKind.i64.wrap (nvN s)) + 1)) m (IntKind.u64.wrap (i + 1))) else none))) else none) else none) else none) (some (.exit 0, Z28 ps s)) := by
  cases ps <;> kernel_rfl
/-- Parts from a place on. -/
def FromP (nx : Int) (ps : List R100) : Prop := RiseP ps ∧ ∀ p ∈ ps, (nx ≤ p.At ∧ p.At < 16384) ∧ 0 < p.Bits ∧ p.Bits < 18446744073709551616
theorem FromP.tail {nx : Int} {p : R100} {ps : List R100} (h : FromP nx (p :: ps)) : FromP (p.At + 1) ps := by
  obtain ⟨h1, h2⟩ := h
  obtain ⟨k1, k2⟩ := List.pairwise_cons.1 h1
  exact ⟨k2, fun q hq => ⟨⟨by have := k1 q hq; omega, (h2 q (List.mem_cons_of_mem _ hq)).1.2⟩, (h2 q (List.mem_cons_of_mem _ hq)).2⟩⟩
/-- Their bytes. -/
def tlS : Int → List R100 → List UInt8
  | _, [] => []
  | nx, p :: ps => bL (p.At - nx).toNat ++ (by8 8 p.Bits.toNat ++ tlS (p.At + 1) ps)
theorem tl8_fold : ∀ (ps : List R100) (b : ByteArray) (nx : Int), 0 ≤ nx → FromP nx ps → tl8 (ps.foldl stB (b, nx)).1 = tl8 b ++ tlS nx ps
  | [], b, nx, _, _ => (List.append_nil _).symm
  | p :: ps, b, nx, h0, h => by
    have hp := h.2 p List.mem_cons_self
    have hn : tl8 (numB (IntKind.u64.wrap (p.At - nx))) = bL (p.At - nx).toNat := by
      have := numB_nat (p.At - nx).toNat (by omega)
      rw [show (((p.At - nx).toNat : Nat) : Int) = p.At - nx by omega] at this
      exact this
    have hf : tl8 (fixB p.Bits) = by8 8 p.Bits.toNat := by unfold fixB; rw [tl8_strN]
    rw [List.foldl_cons]
    show tl8 (ps.foldl stB (b ++ (numB (IntKind.u64.wrap (p.At - nx)) ++ fixB p.Bits), p.At + 1)).1 = _
    rw [tl8_fold ps _ (p.At + 1) (by omega) h.tail, tl8_append, tl8_append, hn, hf, List.append_assoc, List.append_assoc]
    rfl
theorem OkP.from {ps : List R100} (h : OkP ps) : FromP 0 ps := h
theorem tl8_putS {ps : List R100} (h : OkP ps) : tl8 (putS ps) = bL ps.length ++ tlS 0 ps := by
  unfold putS
  rw [tl8_fold ps _ 0 (Int.le_refl 0) h.from, numB_nat _ (by have := h.len; omega)]
theorem rounds28 (lp : Lp U) (m : Int) (hm : m ≤ 16384) : ∀ (ps2 ps1 : List R100) (s : ByteArray) (nx i : Int), 0 ≤ nx → 0 ≤ i → m = i + ps2.length → (ps1.length : Int) ≤ i → FromP nx ps2 → nx ≤ 16384 → tl8 s = tlS nx ps2 →
    fnLoop X E28 an28 lp Try.f28 0 (ps2.length + 1) (S28 ps1 s nx m i) = some (.exit 0, Z28 (ps1 ++ ps2) ⟨#[]⟩)
  | [], ps1, s, nx, i, h0, h1, h2, h3, h4, h5, h6 => by
    obtain rfl : s = ⟨#[]⟩ := tl8_inj h6
    rw [List.length_nil] at h2
    refine (r28 lp 0 ps1 _ nx m i).trans ?_
    rw [decide_eq_false (by omega), List.append_nil]
    rfl
  | p :: ps2, ps1, s, nx, i, h0, h1, h2, h3, h4, h5, h6 => by
    have hp := h4.2 p List.mem_cons_self
    rw [List.length_cons] at h2
    obtain ⟨q1, hq1⟩ : ∃ q : ByteArray, tl8 q = by8 8 p.Bits.toNat ++ tlS (p.At + 1) ps2 := ⟨strN _, tl8_strN _⟩
    obtain ⟨q2, hq2⟩ : ∃ q : ByteArray, tl8 q = tlS (p.At + 1) ps2 := ⟨strN _, tl8_strN _⟩
    have hs : tl8 s = bL (p.At - nx).toNat ++ tl8 q1 := by rw [h6, hq1]; rfl
    have hs2 : tl8 q1 = by8 8 p.Bits.toNat ++ tl8 q2 := by rw [hq1, hq2]
    obtain ⟨e1, e2⟩ := nvN_of hs
    obtain ⟨f1, f2⟩ := fx_of hs2 (by omega)
    have c1 : PNv ⟨s, 0⟩ 16384 := ⟨rfl, _, q1, hs, by omega, by omega⟩
    have c2 : PFx ⟨q1, 0⟩ 8 := ⟨rfl, rfl, _, q2, hs2, by omega⟩
    have a1 : IntKind.i64.wrap (((p.At - nx).toNat : Nat) : Int) = p.At - nx := by rw [wr (by omega) (by omega)]; omega
    have a2 : IntKind.i64.wrap (nx + (p.At - nx)) = p.At := by rw [wr (by omega) (by omega)]; omega
    have a3 : ((p.Bits.toNat : Nat) : Int) = p.Bits := by omega
    have a4 : IntKind.u64.wrap (i + 1) = i + 1 := by
      show (i + 1) % (2 ^ 64) = _
      omega
    have a5 : (⟨p.At, p.Bits⟩ : R100) = p := rfl
    refine (r28 lp (ps2.length + 1) ps1 s nx m i).trans ?_
    rw [decide_eq_true (by omega), cond_true, if_pos c1, e1, e2, f1, f2, if_pos c2, if_pos trivial, a1, a2, a3, a4, a5, decide_eq_false (show ¬ p.Bits = 0 by omega), cond_false, decide_eq_false (show ¬ 16384 ≤ p.At by omega), cond_false, if_pos (by omega), wr (a := p.At + 1) (by omega) (by omega)]
    have := rounds28 lp m hm ps2 (ps1 ++ [p]) q2 (p.At + 1) (i + 1) (by omega) (by omega) (by omega) (by rw [List.length_append, List.length_singleton]; omega) h4.tail (by omega) hq2
    rw [List.append_assoc] at this
    exact this
def dl28 (s : TS U) : Option (Rd × Int × Int × Int) := match told s 52 [2, 4, 5, 6, 12, 13] 0, s.objs with
  | some [a0, a1, a2, a3, a4, a5], [o0, o1] =>
    match o0 with
    | .cells [q0] false =>
      match q0 with
      | .v (.slice none 0 0) =>
        match o1 with
        | .cells [q1, q2] false =>
          match q1 with
          | .v (.string r_S) =>
            match q2 with
            | .v (.int .i64 r_E) =>
              match a0 with
              | .ref 0 0 0 =>
                match a1 with
                | .ref 1 0 0 =>
                  match a2 with
                  | .v (.slice none 0 0) =>
                    match a3 with
                    | .v (.int .i64 nx) =>
                      match a4 with
                      | .v (.int .u64 m) =>
                        match a5 with
                        | .v (.int .u64 i) =>
                          some ((⟨r_S, r_E⟩ : Rd), nx, m, i)
                        | _ => none
                      | _ => none
                    | _ => none
                  | _ => none
                | _ => none
              | _ => none
            | _ => none
          | _ => none
        | _ => none
      | _ => none
    | _ => none
  | _, _ => none
theorem dl28_ok {s : TS U} {r : Rd} {nx : Int} {m : Int} {i : Int} (h : dl28 s = some (r, nx, m, i)) : s = mkS (U := U) 52 ([2, 4, 5, 6, 12, 13].zip ([.ref 0 0 0, .ref 1 0 0, .v (.slice none 0 0), .v (.int .i64 nx), .v (.int .u64 m), .v (.int .u64 i)] : List (TV U))) ([.cells [.v (.slice none 0 0)] false, r.ob] : List (TO U)) 0 := by
  unfold dl28 at h
  split at h <;> try (cases h; done)
  rename_i ht ho
  have hs := told_ok ht
  rw [ho] at hs
  repeat' split at h
  all_goals first | (cases h; done) | (cases h; exact hs)
def P28 (ps : List R100) (r : Rd) (nx m i : Int) : Prop := OkP ps ∧ r.E = 0 ∧ nx = 0 ∧ m = ps.length ∧ i = 0 ∧ tl8 r.S = tlS 0 ps
noncomputable instance (ps : List R100) (r : Rd) (nx m i : Int) : Decidable (P28 ps r nx m i) := Classical.propDecidable _
noncomputable def lc28 (ps : List R100) : LC U := .of dl28 (fun (r, nx, m, i) => P28 ps r nx m i) (.exit 0) fun _ => Z28 ps ⟨#[]⟩
noncomputable def lp28 (ps : List R100) : Lp U := lpL [(0, lc28 ps)]
theorem lp28_ok (ps : List R100) : ∀ c, Try.f28.body = some c → LpOk X E28 an28 (lp28 ps) (loops c 0) := lpL_ok (by kernel_rfl) fun b L hm st p hs => by
  cases hm with
  | head =>
    obtain ⟨⟨r, nx, m, i⟩, hx, ⟨h1, h2, rfl, rfl, rfl, h3⟩, rfl⟩ := LC.of_some hs
    obtain rfl := dl28_ok hx
    obtain ⟨t, e⟩ := r
    obtain rfl : e = 0 := h2
    exact ⟨_, rounds28 _ ps.length (by have := h1.len; omega) ps [] t 0 0 (Int.le_refl 0) (Int.le_refl 0) (by omega) (Int.le_refl 0) h1.from (by decide) h3⟩
  | tail _ hm => cases hm
theorem e28n (s : ByteArray) : (evFn X E28 an28 (lp28 []) Try.f28 [] [TV.v (Value.string s)]
  fun (o : List (TO X.U)) (v : TV X.U) => some (o, v)) =
  if True then
  if PNv { S := s, E := 0 } 16384 then
    if P28 [] { S := nrN s, E := 0 } 0 (nvN s) 0 then
      some ([], TV.tup [TV.agg [TV.v (Value.slice none 0 0)], TV.v (Value.int IntKind.i64 0)])
    else none
  else none
else none := by kernel_rfl
theorem e28c (p : R100) (ps : List
  R100) (s : ByteArray) : (evFn X E28 an28 (lp28 (p :: ps)) Try.f28 [] [TV.v (Value.string s)]
  fun (o : List (TO X.U)) (v : TV X.U) => some (o, v)) =
  if True then
  if PNv { S := s, E := 0 } 16384 then
    if P28 (p :: ps) { S := nrN s, E := 0 } 0 (nvN s) 0 then
      some ([], TV.tup [TV.agg [@TV.lst U C.t100 (p :: ps)], TV.v (Value.int IntKind.i64 0)])
    else none
  else none
else none := by kernel_rfl
end Go.Proofs.Ytmcflglkfgnbbaa.Bt

/- Sets as bytes: the law's function. -/
namespace Go.Proofs.Ytmcflglkfgnbbaa.Bt
open Go Go.RowKit Go.Proofs.Ytmcflglkfgnbbaa.Eng Go.Proofs.Ytmcflglkfgnbbaa.Nd
set_option linter.unusedVariables false
set_option linter.unusedSimpArgs false
set_option maxRecDepth 20000
/-! ### awake: it is run -/
def rb29 : Ann := ⟨fun _ => 0, fun _ => 0, fun _ => [], false⟩
def rb36 : Ann := ⟨fun | 0 => 460 | _ => 0, fun | 0 => 12 | _ => 0, fun _ => [], false⟩
def rb65 : Ann := ⟨fun _ => 0, fun _ => 0, fun _ => [], false⟩
def rb66 : Ann := ⟨fun | 0 => 904 | _ => 0, fun | 0 => 12 | _ => 0, fun _ => [], false⟩
def rb60 : Ann := ⟨fun _ => 0, fun _ => 0, fun _ => [], false⟩
def rb81 : Ann := ⟨fun _ => 0, fun _ => 0, fun _ => [], false⟩
def rb90 : Ann := ⟨fun | 0 => 1799 | _ => 0, fun | 0 => 967 | _ => 0, fun _ => [], false⟩
def rb91 : Ann := ⟨fun _ => 0, fun _ => 0, fun _ => [], false⟩
def rb82 : Ann := ⟨fun _ => 0, fun _ => 0, fun _ => [], false⟩
def rb85 : Ann := ⟨fun _ => 0, fun _ => 0, fun _ => [], false⟩
/-- One element put into a row. -/
def sInsC : Spc U := .of dNP (fun (ys, i) => ys.length = 1 ∧ i = 0) (fun (ys, i) => [.dead ys.length, .row .t100 ys false]) fun _ => .full 1
theorem sInsC_ok : SpecOk Try.prog 83 sInsC := by
  refine SpecOk.of sInsPN_ok fun objs args x hx hp => ?_
  obtain ⟨ys, i⟩ := x
  obtain ⟨h1, rfl⟩ := hp
  have h1 : ys.length = 1 := h1
  unfold sInsPN Spc.of
  dsimp only
  rw [hx]
  exact if_pos (show PreN ys.length 0 from ⟨h1, rfl⟩)
def sInsD : Spc U := .of dIP (fun (xs, ys, i) => ys.length = 1 ∧ xs.length ≤ 1000 ∧ 0 ≤ i ∧ i ≤ xs.length) (fun (xs, ys, i) => [.dead xs.length, .row .t100 ys false, .row .t100 (insL xs ys i) false]) fun _ => .full 2
theorem sInsD_ok : SpecOk Try.prog 83 sInsD := by
  refine SpecOk.of sInsP0_ok fun objs args x hx hp => ?_
  obtain ⟨xs, ys, i⟩ := x
  obtain ⟨h1, h2, h3, h4⟩ := hp
  unfold sInsP0 Spc.of
  dsimp only
  rw [hx]
  exact if_pos (show PreIns xs.length ys.length 16 i from ⟨h3, h4, h1, by omega⟩)
def Eaw : FuncId → Option (Spc U)
  | 83 => some (alt isNl sInsC sInsD)
  | _ => none
theorem Eaw_ok : ∀ f S, Eaw f = some S → SpecOk Try.prog f S := fun f S h => by
  unfold Eaw at h
  split at h
  · cases h; exact alt_ok sInsC_ok sInsD_ok
  · cases h
noncomputable def fsB : FuncId → Option (Func × Ann)
  | 29 => some (Try.f29, rb29)
  | 36 => some (Try.f36, rb36)
  | 65 => some (Try.f65, rb65)
  | 66 => some (Try.f66, rb66)
  | 60 => some (Try.f60, rb60)
  | 81 => some (Try.f81, rb81)
  | 90 => some (Try.f90, rb90)
  | 91 => some (Try.f91, rb91)
  | 82 => some (Try.f82, { rb82 with own := true })
  | 85 => some (Try.f85, rb85)
  | _ => none
theorem fsB_ok : ∀ f fn an, fsB f = some (fn, an) → Runs Try.prog f fn := fun f fn an h => by
  unfold fsB at h
  split at h
  · cases h; exact ⟨Try.func29, by kernel_rfl, by kernel_rfl, by kernel_rfl⟩
  · cases h; exact ⟨Try.func36, by kernel_rfl, by kernel_rfl, by kernel_rfl⟩
  · cases h; exact ⟨Try.func65, by kernel_rfl, by kernel_rfl, by kernel_rfl⟩
  · cases h; exact ⟨Try.func66, by kernel_rfl, by kernel_rfl, by kernel_rfl⟩
  · cases h; exact ⟨Try.func60, by kernel_rfl, by kernel_rfl, by kernel_rfl⟩
  · cases h; exact ⟨Try.func81, by kernel_rfl, by kernel_rfl, by kernel_rfl⟩
  · cases h; exact ⟨Try.func90, by kernel_rfl, by kernel_rfl, by kernel_rfl⟩
  · cases h; exact ⟨Try.func91, by kernel_rfl, by kernel_rfl, by kernel_rfl⟩
  · cases h; exact ⟨Try.func82, by kernel_rfl, by kernel_rfl, by kernel_rfl⟩
  · cases h; exact ⟨Try.func85, by kernel_rfl, by kernel_rfl, by kernel_rfl⟩
  · cases h
set_option maxHeartbeats 0 in
theorem e29 : evFn X (runE X Eaw fsB 60 3 20) rb29 lp0 Try.f29 [] [] (fun o v => some (o, v)) = some ([], .v (.bool true)) := by kernel_rfl
def d00 (objs : List (TO U)) (args : List (TV U)) : Option (Unit) := match objs, args with
  | [], [] =>
    some ()
  | _, _ => none
theorem d00_ok {objs : List (TO U)} {args : List (TV U)} (h : d00 objs args = some ()) : objs = [] ∧ args = [] := by
  unfold d00 at h
  repeat' split at h
  all_goals first | (cases h; done) | (cases h; exact ⟨rfl, rfl⟩)
def sAwk : Spc U := .of d00 (fun _ => True) (fun _ => []) fun _ => .v (.bool true)
theorem sAwk_ok : SpecOk Try.prog 29 sAwk := by
  refine fn_ok X_ok mixed (runE_ok (N := 60) (k := 3) X_ok mixed Eaw_ok fsB_ok 20) rb29 lp0 Try.func29 (by kernel_rfl) (by kernel_rfl) (lp0_ok (by kernel_rfl)) fun objs args x hx hp => ?_
  obtain ⟨rfl, rfl⟩ := d00_ok hx
  exact e29
/-! ### Get, by a set known ahead -/
def PGs (ps : List R100) (s : ByteArray) : Prop := OkP ps ∧ s = putS ps
noncomputable instance (ps : List R100) (s : ByteArray) : Decidable (PGs ps s) := Classical.propDecidable _
def dStr1 (objs : List (TO U)) (args : List (TV U)) : Option (ByteArray) := match objs, args with
  | [], [a0] =>
    match a0 with
    | .v (.string s) =>
      some s
    | _ => none
  | _, _ => none
theorem dStr1_ok {objs : List (TO U)} {args : List (TV U)} {s : ByteArray} (h : dStr1 objs args = some s) : objs = [] ∧ args = [.v (.string s)] := by
  unfold dStr1 at h
  repeat' split at h
  all_goals first | (cases h; done) | (cases h; exact ⟨rfl, rfl⟩)
def gtS (ps : List R100) : TV U := match ps with
  | [] => .tup [.agg [nlv], .v (.int .i64 0)]
  | x :: xs => .tup [.agg [.lst .t100 (x :: xs)], .v (.int .i64 0)]
noncomputable def sGetS (ps : List R100) : Spc U := .of dStr1 (fun s => PGs ps s) (fun _ => []) fun _ => gtS ps
theorem sGetS_ok (ps : List R100) : SpecOk Try.prog 28 (sGetS ps) := by
  refine fn_ok X_ok mixed E28_ok an28 (lp28 ps) Try.func28 (by kernel_rfl) (by kernel_rfl) (lp28_ok ps) fun objs args s hx hp => ?_
  obtain ⟨rfl, rfl⟩ := dStr1_ok hx
  obtain ⟨h, rfl⟩ := hp
  have hlen := h.len
  obtain ⟨q, hq⟩ : ∃ q : ByteArray, tl8 q = tlS 0 ps := ⟨strN _, tl8_strN _⟩
  have hs : tl8 (putS ps) = bL ps.length ++ tl8 q := by rw [tl8_putS h, hq]
  obtain ⟨e1, e2⟩ := nvN_of hs
  have c1 : PNv ⟨putS ps, 0⟩ 16384 := ⟨rfl, _, q, hs, by omega, by omega⟩
  have c2 : P28 ps ⟨nrN (putS ps), 0⟩ 0 (nvN (putS ps)) 0 := ⟨h, rfl, rfl, e1, rfl, by show tl8 (nrN _) = _; rw [e2, hq]⟩
  cases ps with
  | nil => refine (e28n _).trans ?_; rw [if_pos trivial, if_pos c1, if_pos c2]; rfl
  | cons p ps => refine (e28c p ps _).trans ?_; rw [if_pos trivial, if_pos c1, if_pos c2]; rfl
/-! ### The same -/
def an68 : Ann := ⟨fun | 0 => 12291 | _ => 0, fun | 0 => 16 | _ => 0, fun _ => [], false⟩
def g68_S0 (xs : List
  R100) (ys : List
  R100) (v3 : Int) : TS U := mkS 26
  [(0, TV.lst C.t100 xs), (1, TV.lst C.t100 ys), (12, TV.v (Value.int IntKind.i64 (↑xs.length : Int))),
    (13, TV.v (Value.int IntKind.i64 v3))]
  [] 0
theorem g68_e0 (lp : Lp
  U) (xs : List R100) (ys : List R100) (N : Nat) (v3 : Int) : fnLoop X E0 an68 lp Try.f68 0 N.succ (g68_S0 xs ys v3) =
  bif decide (v3 < (↑xs.length : Int)) then
  (getI xs v3).bind fun (z : X.U.T C.t100) =>
    (getI ys v3).bind fun (z_1 : X.U.T C.t100) =>
      bif !(decide (z.At = z_1.At) && (decide (z.Bits = z_1.Bits) && true)) then
        some (Exit.ret, mkS 26 [(4, TV.v (Value.bool false))] [] 0)
      else fnLoop X E0 an68 lp Try.f68 0 N (g68_S0 xs ys (IntKind.i64.wrap (v3 + 1)))
else some (Exit.exit 0, mkS 26 [] [] 0) := by kernel_rfl
end Go.Proofs.Ytmcflglkfgnbbaa.Bt

/- Sets as bytes: the law's function is true. -/
namespace Go.Proofs.Ytmcflglkfgnbbaa.Bt
open Go Go.RowKit Go.Proofs.Ytmcflglkfgnbbaa.Eng Go.Proofs.Ytmcflglkfgnbbaa.Nd
set_option linter.unusedVariables false
set_option linter.unusedSimpArgs false
set_option maxRecDepth 20000
theorem rounds68 (lp : Lp U) (xs : List R100) (hl : xs.length ≤ 1000000) : ∀ (m i : Nat), i + m = xs.length → fnLoop X E0 an68 lp Try.f68 0 (m + 1) (g68_S0 xs xs i) = some (.exit 0, mkS 26 [] [] 0) := by
  intro m
  induction m with
  | zero => intro i hi; rw [g68_e0, decide_eq_false (by omega)]; rfl
  | succ m ih =>
    intro i hi
    obtain ⟨z, hz, _⟩ := getE (l := xs) (v := (i : Int)) (by omega) (by omega)
    rw [g68_e0, decide_eq_true (by omega), hz, cond_true, Option.bind_some, Option.bind_some, decide_eq_true rfl, decide_eq_true rfl]
    rw [wr (a := (i : Int) + 1) (by omega) (by omega)]
    exact ih (i + 1) (by omega)
def P68 (xs ys : List R100) (c i : Int) : Prop := xs = ys ∧ xs.length ≤ 1000000 ∧ c = xs.length ∧ i = 0
noncomputable instance (xs ys : List R100) (c i : Int) : Decidable (P68 xs ys c i) := Classical.propDecidable _
def dl68 (s : TS U) : Option (List R100 × List R100 × Int × Int) := match told s 26 [0, 1, 12, 13] 0, s.objs with
  | some [a0, a1, a2, a3], [] =>
    match a0 with
    | .lst .t100 xs =>
      match a1 with
      | .lst .t100 ys =>
        match a2 with
        | .v (.int .i64 c) =>
          match a3 with
          | .v (.int .i64 i) =>
            some (xs, ys, c, i)
          | _ => none
        | _ => none
      | _ => none
    | _ => none
  | _, _ => none
theorem dl68_ok {s : TS U} {xs : List R100} {ys : List R100} {c : Int} {i : Int} (h : dl68 s = some (xs, ys, c, i)) : s = mkS (U := U) 26 ([0, 1, 12, 13].zip ([.lst .t100 xs, .lst .t100 ys, .v (.int .i64 c), .v (.int .i64 i)] : List (TV U))) ([] : List (TO U)) 0 := by
  unfold dl68 at h
  split at h <;> try (cases h; done)
  rename_i ht ho
  have hs := told_ok ht
  rw [ho] at hs
  repeat' split at h
  all_goals first | (cases h; done) | (cases h; exact hs)
noncomputable def lc68 : LC U := .of dl68 (fun (xs, ys, c, i) => P68 xs ys c i) (.exit 0) fun _ => mkS 26 [] [] 0
noncomputable def lp68 : Lp U := lpL [(0, lc68)]
theorem lp68_ok : ∀ c, Try.f68.body = some c → LpOk X E0 an68 lp68 (loops c 0) := lpL_ok (by kernel_rfl) fun b L hm st p hs => by
  cases hm with
  | head =>
    obtain ⟨⟨xs, ys, c, i⟩, hx, ⟨rfl, h2, rfl, rfl⟩, rfl⟩ := LC.of_some hs
    obtain rfl := dl68_ok hx
    exact ⟨_, rounds68 _ xs h2 xs.length 0 (Nat.zero_add _)⟩
  | tail _ hm => cases hm
theorem e68 (xs : List
  R100) (ys : List
  R100) : (evFn X E0 an68 lp68 Try.f68 [] [TV.lst C.t100 xs, TV.lst C.t100 ys] fun (o : List (TO X.U)) (v : TV X.U) =>
  some (o, v)) =
  bif !decide ((↑xs.length : Int) = (↑ys.length : Int)) then some ([], TV.v (Value.bool false))
else if P68 xs ys (↑xs.length : Int) 0 then some ([], TV.v (Value.bool true)) else none := by kernel_rfl
def d68 (objs : List (TO U)) (args : List (TV U)) : Option (List R100 × List R100) := match objs, args with
  | [], [a0, a1] =>
    match a0 with
    | .lst .t100 xs =>
      match a1 with
      | .lst .t100 ys =>
        some (xs, ys)
      | _ => none
    | _ => none
  | _, _ => none
theorem d68_ok {objs : List (TO U)} {args : List (TV U)} {xs : List R100} {ys : List R100} (h : d68 objs args = some (xs, ys)) : objs = [] ∧ args = [.lst .t100 xs, .lst .t100 ys] := by
  unfold d68 at h
  repeat' split at h
  all_goals first | (cases h; done) | (cases h; exact ⟨rfl, rfl⟩)
noncomputable def sEqP0 : Spc U := .of d68 (fun (xs, ys) => P68 xs ys xs.length 0) (fun _ => []) fun _ => .v (.bool true)
theorem sEqP0_ok : SpecOk Try.prog 68 sEqP0 := by
  refine fn_ok X_ok mixed E0_ok an68 lp68 Try.func68 (by kernel_rfl) (by kernel_rfl) lp68_ok fun objs args x hx hp => ?_
  obtain ⟨xs, ys⟩ := x
  obtain ⟨rfl, rfl⟩ := d68_ok hx
  have hp : P68 xs ys xs.length 0 := hp
  have hp' := hp
  obtain ⟨rfl, _⟩ := hp'
  refine (e68 xs xs).trans ?_
  rw [decide_eq_true rfl, Bool.not_true, cond_false, if_pos hp]
noncomputable def sEqP : Spc U := sEqP0.wkA [.l .t100, .l .t100]
theorem sEqP_ok : SpecOk Try.prog 68 sEqP := sEqP0_ok.wkA _
noncomputable def E31 : FuncId → Option (Spc U)
  | 68 => some sEqP
  | _ => none
theorem E31_ok : ∀ f S, E31 f = some S → SpecOk Try.prog f S := fun f S h => by
  unfold E31 at h
  split at h
  · cases h; exact sEqP_ok
  · cases h
theorem e31 (xs : List
  R100) (ys : List
  R100) : (evFn X E31 an0 lp0 Try.f31 [] [TV.agg [TV.lst C.t100 xs], TV.agg [TV.lst C.t100 ys]]
  fun (o : List (TO X.U)) (v : TV X.U) => some (o, v)) =
  if P68 xs ys (↑xs.length : Int) 0 then some ([], TV.v (Value.bool true)) else none := by kernel_rfl
def d31 (objs : List (TO U)) (args : List (TV U)) : Option (List R100 × List R100) := match objs, args with
  | [], [a0, a1] =>
    match a0 with
    | .agg [q0] =>
      match q0 with
      | .lst .t100 xs =>
        match a1 with
        | .agg [q1] =>
          match q1 with
          | .lst .t100 ys =>
            some (xs, ys)
          | _ => none
        | _ => none
      | _ => none
    | _ => none
  | _, _ => none
theorem d31_ok {objs : List (TO U)} {args : List (TV U)} {xs : List R100} {ys : List R100} (h : d31 objs args = some (xs, ys)) : objs = [] ∧ args = [.agg [.lst .t100 xs], .agg [.lst .t100 ys]] := by
  unfold d31 at h
  repeat' split at h
  all_goals first | (cases h; done) | (cases h; exact ⟨rfl, rfl⟩)
noncomputable def sSm0 : Spc U := .of d31 (fun (xs, ys) => P68 xs ys xs.length 0) (fun _ => []) fun _ => .v (.bool true)
theorem sSm0_ok : SpecOk Try.prog 31 sSm0 := by
  refine fn_ok X_ok mixed E31_ok an0 lp0 Try.func31 (by kernel_rfl) (by kernel_rfl) (lp0_ok (by kernel_rfl)) fun objs args x hx hp => ?_
  obtain ⟨xs, ys⟩ := x
  obtain ⟨rfl, rfl⟩ := d31_ok hx
  exact (e31 xs ys).trans (if_pos hp)
noncomputable def sSm : Spc U := sSm0.wkA [.a [.l .t100], .a [.l .t100]]
theorem sSm_ok : SpecOk Try.prog 31 sSm := sSm0_ok.wkA _
noncomputable def E7 (ps : List R100) : FuncId → Option (Spc U)
  | 26 => some sSet
  | 27 => some sPutS
  | 28 => some (sGetS ps)
  | 29 => some sAwk
  | 30 => some (sPutZ ps)
  | 31 => some sSm
  | _ => none
theorem E7_ok (ps : List R100) : ∀ f S, E7 ps f = some S → SpecOk Try.prog f S := fun f S h => by
  unfold E7 at h
  split at h
  · cases h; exact sSet_ok
  · cases h; exact sPutS_ok
  · cases h; exact sGetS_ok ps
  · cases h; exact sAwk_ok
  · cases h; exact sPutZ_ok ps
  · cases h; exact sSm_ok
  · cases h
theorem e7n (l : List
  Int) : (evFn X (E7 []) an0 lp0 Try.f7 [] [TV.lst C.i64 l] fun (o : List (TO X.U)) (v : TV X.U) => some (o, v)) =
  if True then
  bif (ofP (List.take 100 l)).isEmpty then
    if PWith [] then
      if PGs [] (putS []) then
        if PPut [] (ofR (List.take 100 l)) then
          bif (putS []).toList.beq (putS []).toList then
            if P68 [] [] (↑0 : Int) 0 then some ([], TV.v (Value.bool true)) else none
          else some ([], TV.v (Value.bool false))
        else none
      else none
    else none
  else
    if PWith (cP (ofP (List.take 100 l))) then
      if PGs [] (putS (cP (ofP (List.take 100 l)))) then
        if PPut [] (ofR (List.take 100 l)) then
          bif (putS (cP (ofP (List.take 100 l)))).toList == (putS []).toList then
            if P68 [] (cP (ofP (List.take 100 l))) (↑0 : Int) 0 then some ([], TV.v (Value.bool true)) else none
          else some ([], TV.v (Value.bool false))
        else none
      else none
    else none
else none := by kernel_rfl
theorem e7c (l : List
  Int) : (evFn X (E7 (cP (ofP (List.take 100 l)))) an0 lp0 Try.f7 [] [TV.lst C.i64 l]
  fun (o : List (TO X.U)) (v : TV X.U) => some (o, v)) =
  if True then
  bif (ofP (List.take 100 l)).isEmpty then
    if PWith [] then
      if PGs (cP (ofP (List.take 100 l))) (putS []) then
        if PPut (cP (ofP (List.take 100 l))) (ofR (List.take 100 l)) then
          bif (putS []).toList == (putS (cP (ofP (List.take 100 l)))).toList then
            if
                P68 ((ofP (List.take 100 l)).headD { At := 0, Bits := 0 } :: (ofP (List.take 100 l)).tail) []
                  (↑((ofP (List.take 100 l)).headD { At := 0, Bits := 0 } :: (ofP (List.take 100 l)).tail).length : Int)
                  0 then
              some ([], TV.v (Value.bool true))
            else none
          else some ([], TV.v (Value.bool false))
        else none
      else none
    else none
  else
    if PWith (cP (ofP (List.take 100 l))) then
      if PGs (cP (ofP (List.take 100 l))) (putS (cP (ofP (List.take 100 l)))) then
        if PPut (cP (ofP (List.take 100 l))) (ofR (List.take 100 l)) then
          bif (putS (cP (ofP (List.take 100 l)))).toList == (putS (cP (ofP (List.take 100 l)))).toList then
            if
                P68 ((ofP (List.take 100 l)).headD { At := 0, Bits := 0 } :: (ofP (List.take 100 l)).tail)
                  (cP (ofP (List.take 100 l)))
                  (↑((ofP (List.take 100 l)).headD { At := 0, Bits := 0 } :: (ofP (List.take 100 l)).tail).length : Int)
                  0 then
              some ([], TV.v (Value.bool true))
            else none
          else some ([], TV.v (Value.bool false))
        else none
      else none
    else none
else none := by kernel_rfl
end Go.Proofs.Ytmcflglkfgnbbaa.Bt

/- Sets as bytes: the law's function is true, whatever the input. -/
namespace Go.Proofs.Ytmcflglkfgnbbaa.Bt
open Go Go.RowKit Go.Proofs.Ytmcflglkfgnbbaa.Eng Go.Proofs.Ytmcflglkfgnbbaa.Nd
set_option linter.unusedVariables false
set_option linter.unusedSimpArgs false
set_option maxRecDepth 20000
theorem ofR_len (l : List Int) : (ofR l).length ≤ l.length := by
  have key : ∀ (l out : List Int), (l.foldl rwR out).length ≤ out.length + l.length := by
    intro l
    induction l with
    | nil => intro out; exact Nat.le_refl _
    | cons z l ih =>
      intro out
      have := ih (rwR out z)
      have := rwR_len out z
      rw [List.foldl_cons, List.length_cons]
      omega
  have := key l []
  rw [List.length_nil, Nat.zero_add] at this
  exact this
theorem okP_len {xs : List R100} (h : OkP xs) : xs.length ≤ 1000000 := by
  have := h.len
  omega
def P7 (l x : List Int) : Prop := x = l
noncomputable instance (l x : List Int) : Decidable (P7 l x) := Classical.propDecidable _
noncomputable def sLaw7 (l : List Int) : Spc U := .of dLi (fun x => P7 l x) (fun _ => []) fun _ => .v (.bool true)
theorem sLaw7_ok (l : List Int) : SpecOk Try.prog 7 (sLaw7 l) := by
  have hl : (ofR (l.take 100)).length ≤ 1000000 := by
    have := ofR_len (l.take 100)
    rw [List.length_take] at this
    omega
  have hr := relP_of (l.take 100)
  cases hq : (ofP (l.take 100)).isEmpty with
  | true =>
    refine fn_ok X_ok mixed (E7_ok []) an0 lp0 Try.func7 (by kernel_rfl) (by kernel_rfl) (lp0_ok (by kernel_rfl)) fun objs args x hx hp => ?_
    obtain rfl : x = l := hp
    obtain ⟨rfl, rfl⟩ := dLi_ok hx
    have e0 : ofP (x.take 100) = [] := List.isEmpty_iff.1 hq
    rw [e0] at hr
    refine (e7n x).trans ?_
    rw [if_pos trivial, hq, cond_true, if_pos (show PWith [] from relP_nil.1), if_pos (show PGs [] (putS []) from ⟨relP_nil.1, rfl⟩), if_pos (show PPut [] (ofR (x.take 100)) from ⟨hr, hl⟩)]
    rw [show ((putS []).toList.beq (putS []).toList) = true from (beq_self_eq_true (putS []).toList : ((putS []).toList == (putS []).toList) = true), cond_true]
    exact if_pos (show P68 [] [] 0 0 from ⟨rfl, by simp, rfl, rfl⟩)
  | false =>
    refine fn_ok X_ok mixed (E7_ok (cP (ofP (l.take 100)))) an0 lp0 Try.func7 (by kernel_rfl) (by kernel_rfl) (lp0_ok (by kernel_rfl)) fun objs args x hx hp => ?_
    obtain rfl : x = l := hp
    obtain ⟨rfl, rfl⟩ := dLi_ok hx
    refine (e7c x).trans ?_
    have hc := cP_eq hq
    have hh : (ofP (x.take 100)).headD ⟨0, 0⟩ :: (ofP (x.take 100)).tail = cP (ofP (x.take 100)) := rfl
    rw [hh, hc]
    rw [if_pos trivial, hq, cond_false, if_pos (show PWith (ofP (x.take 100)) from hr.1), if_pos (show PGs (ofP (x.take 100)) (putS (ofP (x.take 100))) from ⟨hr.1, rfl⟩), if_pos (show PPut (ofP (x.take 100)) (ofR (x.take 100)) from ⟨hr, hl⟩)]
    rw [beq_self_eq_true, cond_true, if_pos (show P68 (ofP (x.take 100)) (ofP (x.take 100)) ((ofP (x.take 100)).length : Int) 0 from ⟨rfl, okP_len hr.1, rfl, rfl⟩)]
theorem law7 (l : List Int) : HCall Try.prog 7 [] [.lst 1 (l.map encS_i64)] [] (.v (.bool true)) :=
  ((sLaw7_ok l).ok [] [.lst .i64 l] [] (.v (.bool true)) (if_pos (show P7 l l from rfl)) rfl rfl rfl).1
end Go.Proofs.Ytmcflglkfgnbbaa.Bt

/- Rows of records, read out of the data. -/
namespace Go.Proofs.Ytmcflglkfgnbbaa.Nd
open Go Go.ChangeShapes Go.WideShapes Go.ChangeAt Go.RowKit Go.Proofs.Ytmcflglkfgnbbaa.Eng
set_option linter.unusedVariables false
set_option linter.unusedSimpArgs false
theorem repR_of {α : Type} {H : Array Go.Obj} {L : List Value} {m : Nat} (enc : α → List SV) (g : Gh) (f : Nat → α) : ∀ (n k : Nat), (∀ j, k ≤ j → j < k + n → ((L.drop (j * m)).take m).length = m ∧ RepL g H ((L.drop (j * m)).take m) (enc (f j))) → RepR g H (L.drop (k * m)) m (((List.range' k n).map f).map enc)
  | 0, _, _ => .nil
  | n + 1, k, h => by
    obtain ⟨h1, h2⟩ := h k (Nat.le_refl k) (by omega)
    have := RepR.cons (rows := ((List.range' (k + 1) n).map f).map enc) h1 h2 (repR_of enc g f n (k + 1) fun j hj hj' => h j (by omega) (by omega))
    rw [show L.drop ((k + 1) * m) = (L.drop (k * m)).drop m by rw [List.drop_drop, Nat.succ_mul], List.take_append_drop] at this
    simpa [List.range'_succ] using this
/-- A row whose elements read, as a frozen list. -/
theorem rep_list {α : Type} {W : World} {a : Addr} {len cap m : Nat} (enc : α → List SV) (hm : 0 < m) (hl : len ≤ cap) (hpos : 0 < len) (z0 : α)
    (he : ∀ j, j < cap → ∃ cs' z, W.cells? 0 (a.add (j * m)) m = some cs' ∧ ∀ g, RepL g W.heap cs' (enc z)) :
    ∃ (b : Nat) (l : List α), b < W.heap.size ∧ l.length = len ∧ ∀ g : Gh, g.F b → Rep g W.heap (.slice (some a) len cap) (.lst m (l.map enc)) := by
  obtain ⟨f, hf⟩ : ∃ f : Nat → α, ∀ j, j < cap → ∃ cs', W.cells? 0 (a.add (j * m)) m = some cs' ∧ ∀ g, RepL g W.heap cs' (enc (f j)) := by
    refine ⟨fun j => if h : j < cap then (he j h).choose_spec.choose else z0, fun j hj => ?_⟩
    simp only [hj, ↓reduceDIte]
    exact ⟨_, (he j hj).choose_spec.choose_spec⟩
  obtain ⟨b, off, inner⟩ := a
  have hcell : ∀ j i, j < cap → i < m → ∃ v, W.cell? ((⟨b, off, inner⟩ : Addr).add (j * m + i)) = some v := fun j i hj hi => by
    obtain ⟨cs', h1, _⟩ := hf j hj
    obtain ⟨_, h2, h3⟩ := World.cells?_some h1
    have := h3 i hi
    rw [Addr.add_add] at this
    exact ⟨cs'[i]'(by omega), by rw [this, List.getElem?_eq_getElem (by omega)]⟩
  obtain ⟨v, h0⟩ := hcell 0 0 (by omega) hm
  have ha0 : (⟨b, off, inner⟩ : Addr).add (0 * m + 0) = ⟨b, off, inner⟩ := by unfold Addr.add; simp
  rw [ha0] at h0
  cases inner with
  | some i =>
    cases hb : W.heap[b]? with
    | none => simp [World.cell?, hb] at h0
    | some o => cases o <;> simp [World.cell?, hb] at h0
  | none =>
    cases hb : W.heap[b]? with
    | none => simp [World.cell?, hb] at h0
    | some o =>
      have hlt := (Array.getElem?_eq_some_iff.1 hb).1
      cases o with
      | cells cs T fr =>
        have hat : ∀ j i, j < cap → i < m → ∃ v, cs[off + (j * m + i)]? = some v := fun j i hj hi => by
          obtain ⟨v, hv⟩ := hcell j i hj hi
          rw [addr_add, cell_of hb] at hv
          exact ⟨v, hv⟩
        have hsz : off + cap * m ≤ cs.size := by
          obtain ⟨v, hv⟩ := hat (cap - 1) (m - 1) (by omega) (by omega)
          have h1 := (Array.getElem?_eq_some_iff.1 hv).1
          have h2 : cap * m = (cap - 1) * m + m := by
            rw [← Nat.succ_mul, show (cap - 1).succ = cap by omega]
          omega
        refine ⟨b, (List.range len).map f, hlt, by simp, fun g hF => .lst (by simp) hF hb hl hsz ?_⟩
        have := repR_of (H := W.heap) (L := cs.toList.drop off) (m := m) enc g f len 0 fun j _ hj => by
          obtain ⟨cs', h1, h2⟩ := hf j (by omega)
          obtain ⟨_, h3, h4⟩ := World.cells?_some h1
          have heq : ((cs.toList.drop off).drop (j * m)).take m = cs' := by
            apply List.ext_getElem?
            intro i
            rcases Nat.lt_or_ge i m with hi | hi
            · rw [List.getElem?_take_of_lt hi, List.getElem?_drop, List.getElem?_drop, Array.getElem?_toList, ← h4 i hi, Addr.add_add, addr_add, cell_of hb]
            · rw [List.getElem?_eq_none (by rw [List.length_take]; omega), List.getElem?_eq_none (by omega)]
          rw [heq]
          exact ⟨h3, h2 g⟩
        rw [Nat.zero_mul, List.drop_zero, ← List.range_eq_range'] at this
        exact this
      | _ => simp [World.cell?, hb] at h0
/-- What is told of the rows of a []struct out of the data, by what is told of one element. -/
theorem open_list {α : Type} {H : Type} {e : TypeId × Value → H} {P : Program} {W : World} {m T E : Nat} {cs : List Value} {x : DataW H × List MemPlace} (enc : α → List SV) (z0 : α) (hT : P.underlying T = some (.slice E)) (hpos : 0 < P.cellsOf E)
    (h : DataW.trod e P W 0 (fun _ => true) true m T cs = some x) (hel : ∀ n cs' y, DataW.trod e P W 0 (fun _ => true) true n E cs' = some y → ∃ z : α, ∀ g, RepL g W.heap cs' (enc z)) :
    ∃ (v : Value) (l : List α), cs = [v] ∧ Rep ⟨fun _ => none, fun _ => 0, fun _ => 0, fun k => k < W.heap.size⟩ W.heap v (.lst (P.cellsOf E) (l.map enc)) := by
  rcases DataW.trod_slice hT h with ⟨h0, _⟩ | ⟨a, len, cap, elems, rest, n, _, rfl, _, hb, hl, hm, hlen, hE, hsp, _⟩
  · exact ⟨_, [], h0, .nil⟩
  rcases Nat.eq_zero_or_pos len with h00 | hlp
  · subst h00
    exact ⟨_, [], rfl, .nil⟩
  obtain ⟨hrl, hr⟩ := hsp rfl
  obtain ⟨b, l, hlt, _, hrep⟩ := rep_list (W := W) (a := a) (len := len) (cap := cap) enc hpos hl hlp z0 fun j hj => by
    have hy : ∃ y, (W.cells? 0 (a.add (j * P.cellsOf E)) (P.cellsOf E)).bind (DataW.trod e P W 0 (fun _ => true) true n E) = some y := by
      by_cases hi : j < len
      · rw [hE _ hi]
        exact ⟨_, List.getElem?_eq_getElem (by omega)⟩
      · have := hr (j - len) (by omega)
        rw [show len + (j - len) = j by omega] at this
        rw [this]
        exact ⟨_, List.getElem?_eq_getElem (by omega)⟩
    obtain ⟨y, hy⟩ := hy
    rw [Option.bind_eq_some_iff] at hy
    obtain ⟨cs', hcs, hy⟩ := hy
    obtain ⟨z, hz⟩ := hel _ _ _ hy
    exact ⟨cs', z, hcs, hz⟩
  exact ⟨_, l, rfl, hrep _ hlt⟩
set_option maxRecDepth 100000 in
/-- One entry, out of its cells. -/
theorem open_ent {H : Type} {e : TypeId × Value → H} {W : World} (n : Nat) (cs' : List Value) (y : DataW H × List MemPlace) (hy : DataW.trod e Try.prog W 0 (fun _ => true) true n 24 cs' = some y) : ∃ z : R24, cs' = [.string z.S, .string z.V, .int .i64 z.Page, .int .i64 z.Len] := by
  have c24 : Try.prog.cellsOf 24 = 4 := by kernel_rfl
  have c9 : Try.prog.cellsOf 9 = 1 := by kernel_rfl
  have c3 : Try.prog.cellsOf 3 = 1 := by kernel_rfl
  obtain ⟨y0, y1, y2, y3, n', _, hlen, e0, e1, e2, e3⟩ := Go.Joins.trod_struct4 Try.underlying24 hy
  rw [c24] at hlen
  have e0' : DataW.trod e Try.prog W 0 (fun _ => true) true n' 9 ((cs'.drop 0).take (Try.prog.cellsOf 9)) = some y0 := e0
  have e1' : DataW.trod e Try.prog W 0 (fun _ => true) true n' 9 ((cs'.drop 1).take (Try.prog.cellsOf 9)) = some y1 := e1
  have e2' : DataW.trod e Try.prog W 0 (fun _ => true) true n' 3 ((cs'.drop 2).take (Try.prog.cellsOf 3)) = some y2 := e2
  have e3' : DataW.trod e Try.prog W 0 (fun _ => true) true n' 3 ((cs'.drop 3).take (Try.prog.cellsOf 3)) = some y3 := e3
  rw [c9] at e0' e1'
  rw [c3] at e2' e3'
  obtain ⟨p, k1, _⟩ := DataW.trod_string Try.underlying9 e0'
  obtain ⟨q, k2, _⟩ := DataW.trod_string Try.underlying9 e1'
  obtain ⟨r, k3, _⟩ := DataW.trod_int Try.underlying3 e2'
  obtain ⟨s, k4, _⟩ := DataW.trod_int Try.underlying3 e3'
  match cs', hlen with
  | [u0, u1, u2, u3], _ =>
    simp only [List.drop_zero, List.take_succ_cons, List.take_zero, List.cons.injEq, and_true, List.drop_succ_cons] at k1 k2 k3 k4
    subst k1 k2 k3 k4
    exact ⟨⟨p, q, r, s⟩, rfl⟩
set_option maxRecDepth 100000 in
theorem rep_ent (z : R24) (g : Gh) (H : Array Go.Obj) : RepL g H [.string z.S, .string z.V, .int .i64 z.Page, .int .i64 z.Len] (encS_t24 z) := .cons (.v _) (.cons (.v _) (.cons (.v _) (.cons (.v _) .nil)))
end Go.Proofs.Ytmcflglkfgnbbaa.Nd

