/- Texts of this claim, put together: part 14. -/
import Derived.Test.YtmcflglkfgnbbaaDoorRows
import Derived.Test.YtmcflglkfgnbbaaDoorCards
import Derived.Test.YtmcflglkfgnbbaaDoorTie
import Derived.ProofKit
import Derived.LaidMore
import Derived.OpenShut
import Derived.Stop.Joined
import Derived.Lib.LaidTab
import Derived.SevenTiedAt
import Derived.Below
import Derived.ChangeSlices
import Derived.ChangeSame
import Derived.Lib.SmallJoins
import Derived.Test.YtmcflglkfgnbbaaDoorMyB
import Derived.Test.YtmcflglkfgnbbaaDoorMyH
import Derived.Test.YtmcflglkfgnbbaaDoorMyM
/- What is in both, in either, in the first one alone: the law's function is true. -/
namespace Go.Proofs.YtmcflglkfgnbbaaDoor.Bt
open Go Go.RowKit Go.Proofs.YtmcflglkfgnbbaaDoor.Eng Go.Proofs.YtmcflglkfgnbbaaDoor.Nd
set_option linter.unusedVariables false
set_option linter.unusedSimpArgs false
set_option maxRecDepth 20000
theorem cP_con (p : R54) (ps : List R54) : cP (p :: ps) = p :: ps := rfl
theorem ofR_le (l : List Int) : (ofR l).length ≤ l.length := by
  have key : ∀ (l out : List Int), (l.foldl rwR out).length ≤ out.length + l.length := by
    intro l
    induction l with
    | nil => intro out; exact Nat.le_refl _
    | cons z l ih =>
      intro out
      have := ih (rwR out z)
      have := rwR_len out z
      rw [List.foldl_cons, List.length_cons]
      omega
  have := key l []
  rw [List.length_nil, Nat.zero_add] at this
  exact this
theorem oL5 (a b : List Int) : evFn X E5h an0 lp0 Tryd.f5 [] [.lst .i64 a, .lst .i64 b] (fun o v => some (o, v)) = some ([], .v (.bool true)) := by
  have e := e5 a b
  have hS := relP_of (a.take 100)
  have hT := relP_of (b.take 100)
  have lX : (ofR (a.take 100)).length ≤ 100 := by
    have := ofR_le (a.take 100)
    rw [List.length_take] at this
    omega
  have lY : (ofR (b.take 100)).length ≤ 100 := by
    have := ofR_le (b.take 100)
    rw [List.length_take] at this
    omega
  generalize ofP (a.take 100) = S at *
  generalize ofP (b.take 100) = T at *
  generalize ofR (a.take 100) = X at *
  generalize ofR (b.take 100) = Y at *
  have hO := or_rel hS hT
  have hA := and_rel hS hT
  have hL := less_rel hS hT
  have k1 : PSs X.length Y.length := ⟨by omega, by omega⟩
  have k2 : PSo X.length Y.length := by unfold PSo; omega
  have k3 : PSm S X := hS
  have k4 : PSm T Y := hT
  have k5 : PSm (OrP S T) (orR X Y) := hO
  have k6 : PSm (AndP S T) (andR X Y) := hA
  have k7 : PSm (LessP S T) (lessR X Y) := hL
  have k8 : POk2 S T := ⟨hS.1, hT.1⟩
  have k9 : POk2 T S := ⟨hT.1, hS.1⟩
  have z0 : PSz 0 := by unfold PSz; omega
  have z1 : PSz X.length := by unfold PSz; omega
  have z2 : PSz S.length := by have := hS.1.len; unfold PSz; omega
  have z3 : PSz (OrP S T).length := by have := hO.1.len; unfold PSz; omega
  have q1 : eqP S T = eqI X Y := eq_rel hS hT
  have q2 : eqP (OrP S T) (OrP T S) = true := decide_eq_true (orP_comm hS hT)
  have q3 : decide (((LessP S T).length : Int) = 0) = decide (((lessR X Y).length : Int) = 0) := by
    have := nums_none hL.1
    rw [nums_rel hL] at this
    congr 1
    exact propext this
  have q6 : (decide (((LessP S T).length : Int) = 0) == decide (((lessR X Y).length : Int) = 0)) = true := by rw [q3]; exact beq_self_eq_true _
  have fin : ∀ z : Bool, z = true → (cond z (some (([] : List (TO U)), (TV.v (Value.bool true) : TV U))) (some ([], TV.v (Value.bool false)))) = some ([], TV.v (Value.bool true)) := fun z h => by rw [h]; rfl
  refine e.trans ?_
  clear e
  cases S with
  | nil => cases T with
    | nil =>
      have q4 : decide (((lessR X Y).length : Int) = 0) = true := by rw [← q3]; rfl
      have q5 : eqI X Y = true := by rw [← q1]; rfl
      simp only [List.isEmpty_nil, cond_true, if_true, k1, k2, k3, k4, k5, k6, k7, k8, k9, z0, z1, z2, z3, q4, q5, beq_self_eq_true]
      exact fin _ q2
    | cons t T =>
      simp only [List.isEmpty_nil, List.isEmpty_cons, cP_con, cond_true, cond_false, if_true, k1, k2, k3, k4, k5, k6, k7, k8, k9, z0, z1, z2, z3, q1, q2, beq_self_eq_true]
      exact fin _ q6
  | cons s S => cases T with
    | nil =>
      simp only [List.isEmpty_nil, List.isEmpty_cons, cP_con, cond_true, cond_false, if_true, k1, k2, k3, k4, k5, k6, k7, k8, k9, z0, z1, z2, z3, q1, q2, beq_self_eq_true]
      exact fin _ q6
    | cons t T =>
      simp only [List.isEmpty_nil, List.isEmpty_cons, cP_con, cond_true, cond_false, if_true, k1, k2, k3, k4, k5, k6, k7, k8, k9, z0, z1, z2, z3, q1, q2, beq_self_eq_true]
      exact fin _ q6
noncomputable def sLaw5 : Spc U := .of d23 (fun _ => True) (fun _ => []) fun _ => .v (.bool true)
theorem sLaw5_ok : SpecOk Tryd.prog 5 sLaw5 := by
  refine fn_ok X_ok mixed E5h_ok an0 lp0 Tryd.func5 (by kernel_rfl) (by kernel_rfl) (lp0_ok (by kernel_rfl)) fun objs args x hx hp => ?_
  obtain ⟨a, b⟩ := x
  obtain ⟨rfl, rfl⟩ := d23_ok hx
  exact oL5 a b
theorem law5 (a b : List Int) : HCall Tryd.prog 5 [] [.lst 1 (a.map encS_i64), .lst 1 (b.map encS_i64)] [] (.v (.bool true)) :=
  (sLaw5_ok.ok [] [.lst .i64 a, .lst .i64 b] [] (.v (.bool true)) rfl rfl rfl rfl).1
end Go.Proofs.YtmcflglkfgnbbaaDoor.Bt

/- The table that is laid; the seat's facts for a row and its card. -/
namespace Go.Proofs.YtmcflglkfgnbbaaDoor.Bl
open Go Go.ChangeShapes Go.WideShapes Go.ChangeAt Go.RowKit Go.Proofs.YtmcflglkfgnbbaaDoor.Eng
set_option linter.unusedVariables false
theorem own : ownKnob Tryd.prog.godebug = none := by kernel_rfl
theorem gT : Tryd.prog.globalNamed "math/bits.deBruijn64tab" = some 0 := by kernel_rfl
theorem gTType : (Tryd.prog.globals[0]?).map (·.type) = some 69 := by kernel_rfl
theorem cells5 : Tryd.prog.cellsOf 5 = 1 := by kernel_rfl
theorem cells69 : Tryd.prog.cellsOf 69 = 64 := by kernel_rfl
abbrev laidL : List (String × DataW Unit) := [("math/bits.deBruijn64tab", Rows.laid_math_bits_deBruijn64tab)]
theorem door_met (os : Os) (args : Array Value) : laidMetH Tryd.prog laidL ((World.doorLaid Tryd.prog 400 os).forCall (fun _ _ => 0) ⟨#[], args, []⟩).memory :=
  laidMetH_of_parts3 (fuel := 8) (laidMet_of_run' 8 (by kernel_rfl) (by kernel_rfl)) (by kernel_rfl) (by kernel_rfl)
def tabz : List Int := tab0.toList.map fun v => match v with | .int _ n => n | _ => 0
theorem tabs_ok {W : World} (h : laidMetH Tryd.prog laidL W) : TabsOk (fun b => b = 0) W ∧ 0 < W.heap.size := by
  rw [MakeChecks.laidMetH_plain _ _ _ (by kernel_rfl)] at h
  have hL : laidMet Tryd.prog [("math/bits.deBruijn64tab", Lib.tabData .u8 tabz)] W := h
  have hT := Lib.tabIs_of_head gT gTType Tryd.underlying69 Tryd.underlying5 cells5 cells69 hL
  have hv : W.var? Tryd.prog "math/bits.deBruijn64tab" = some tab0 := hT
  have hc := fun i => World.var?_cell gT hv i
  have h0 : W.cell? ⟨0, 0, none⟩ = some (.int .u8 0) := hc 0
  cases hb : W.heap[0]? with
  | none => simp [World.cell?, hb] at h0
  | some o =>
    have hlt := (Array.getElem?_eq_some_iff.1 hb).1
    cases o with
    | cells cs T fr =>
      refine ⟨fun p hp => ?_, hlt⟩
      obtain rfl : p = (0, tab0) := by simpa [tabs] using hp
      refine ⟨rfl, cs, T, fr, hb, fun k v hk => ?_⟩
      have := (hc k).trans hk
      simpa [World.cell?, hb] using this
    | _ => simp [World.cell?, hb] at h0
theorem laidOut : laidOutB Tryd.prog = true := by kernel_rfl
/-- A law's call, by its contract: the table is laid; what is handed in is frozen. -/
theorem call_of {F : FuncId} {args : List SV} (key : HCall Tryd.prog F [] args [] (.v (.bool true))) (vs : List Value) (W : World) (h : laidMetH Tryd.prog laidL W) (hv : RepL ⟨fun _ => none, fun _ => 0, fun _ => 0, fun k => k < W.heap.size⟩ W.heap vs args) :
    Calls Tryd.prog F vs.toArray W fun e W' => e = .returned (.bool true) ∧ Below W.heap.size W W' := by
  obtain ⟨h1, h2⟩ := tabs_ok h
  refine (key ⟨fun _ => none, fun _ => 0, fun _ => 0, fun k => k < W.heap.size⟩ W vs ⟨fun p hp => ?_, fun k hk => hk, fun i o hi => by simp at hi, fun _ _ => rfl, fun i j o o' b hi => by simp at hi⟩ hv).mono fun e W' ⟨v, g', he, hv, hp⟩ => ?_
  · obtain ⟨hb, hr⟩ := h1 p hp
    exact ⟨by have hb : p.1 = 0 := hb; show p.1 < _; omega, hr⟩
  · obtain rfl := rep_v hv
    exact ⟨he, ⟨hp.os, hp.tape, hp.output, hp.hsize, fun k hk => hp.base k hk fun ⟨i, o, hi, _⟩ => by simp at hi⟩⟩
end Go.Proofs.YtmcflglkfgnbbaaDoor.Bl

/- Rows of records, read out of the data. -/
namespace Go.Proofs.YtmcflglkfgnbbaaDoor.Nd
open Go Go.ChangeShapes Go.WideShapes Go.ChangeAt Go.RowKit Go.Proofs.YtmcflglkfgnbbaaDoor.Eng
set_option linter.unusedVariables false
set_option linter.unusedSimpArgs false
theorem repR_of {α : Type} {H : Array Go.Obj} {L : List Value} {m : Nat} (enc : α → List SV) (g : Gh) (f : Nat → α) : ∀ (n k : Nat), (∀ j, k ≤ j → j < k + n → ((L.drop (j * m)).take m).length = m ∧ RepL g H ((L.drop (j * m)).take m) (enc (f j))) → RepR g H (L.drop (k * m)) m (((List.range' k n).map f).map enc)
  | 0, _, _ => .nil
  | n + 1, k, h => by
    obtain ⟨h1, h2⟩ := h k (Nat.le_refl k) (by omega)
    have := RepR.cons (rows := ((List.range' (k + 1) n).map f).map enc) h1 h2 (repR_of enc g f n (k + 1) fun j hj hj' => h j (by omega) (by omega))
    rw [show L.drop ((k + 1) * m) = (L.drop (k * m)).drop m by rw [List.drop_drop, Nat.succ_mul], List.take_append_drop] at this
    simpa [List.range'_succ] using this
/-- A row whose elements read, as a frozen list. -/
theorem rep_list {α : Type} {W : World} {a : Addr} {len cap m : Nat} (enc : α → List SV) (hm : 0 < m) (hl : len ≤ cap) (hpos : 0 < len) (z0 : α)
    (he : ∀ j, j < cap → ∃ cs' z, W.cells? 0 (a.add (j * m)) m = some cs' ∧ ∀ g, RepL g W.heap cs' (enc z)) :
    ∃ (b : Nat) (l : List α), b < W.heap.size ∧ l.length = len ∧ ∀ g : Gh, g.F b → Rep g W.heap (.slice (some a) len cap) (.lst m (l.map enc)) := by
  obtain ⟨f, hf⟩ : ∃ f : Nat → α, ∀ j, j < cap → ∃ cs', W.cells? 0 (a.add (j * m)) m = some cs' ∧ ∀ g, RepL g W.heap cs' (enc (f j)) := by
    refine ⟨fun j => if h : j < cap then (he j h).choose_spec.choose else z0, fun j hj => ?_⟩
    simp only [hj, ↓reduceDIte]
    exact ⟨_, (he j hj).choose_spec.choose_spec⟩
  obtain ⟨b, off, inner⟩ := a
  have hcell : ∀ j i, j < cap → i < m → ∃ v, W.cell? ((⟨b, off, inner⟩ : Addr).add (j * m + i)) = some v := fun j i hj hi => by
    obtain ⟨cs', h1, _⟩ := hf j hj
    obtain ⟨_, h2, h3⟩ := World.cells?_some h1
    have := h3 i hi
    rw [Addr.add_add] at this
    exact ⟨cs'[i]'(by omega), by rw [this, List.getElem?_eq_getElem (by omega)]⟩
  obtain ⟨v, h0⟩ := hcell 0 0 (by omega) hm
  have ha0 : (⟨b, off, inner⟩ : Addr).add (0 * m + 0) = ⟨b, off, inner⟩ := by unfold Addr.add; simp
  rw [ha0] at h0
  cases inner with
  | some i =>
    cases hb : W.heap[b]? with
    | none => simp [World.cell?, hb] at h0
    | some o => cases o <;> simp [World.cell?, hb] at h0
  | none =>
    cases hb : W.heap[b]? with
    | none => simp [World.cell?, hb] at h0
    | some o =>
      have hlt := (Array.getElem?_eq_some_iff.1 hb).1
      cases o with
      | cells cs T fr =>
        have hat : ∀ j i, j < cap → i < m → ∃ v, cs[off + (j * m + i)]? = some v := fun j i hj hi => by
          obtain ⟨v, hv⟩ := hcell j i hj hi
          rw [addr_add, cell_of hb] at hv
          exact ⟨v, hv⟩
        have hsz : off + cap * m ≤ cs.size := by
          obtain ⟨v, hv⟩ := hat (cap - 1) (m - 1) (by omega) (by omega)
          have h1 := (Array.getElem?_eq_some_iff.1 hv).1
          have h2 : cap * m = (cap - 1) * m + m := by
            rw [← Nat.succ_mul, show (cap - 1).succ = cap by omega]
          omega
        refine ⟨b, (List.range len).map f, hlt, by simp, fun g hF => .lst (by simp) hF hb hl hsz ?_⟩
        have := repR_of (H := W.heap) (L := cs.toList.drop off) (m := m) enc g f len 0 fun j _ hj => by
          obtain ⟨cs', h1, h2⟩ := hf j (by omega)
          obtain ⟨_, h3, h4⟩ := World.cells?_some h1
          have heq : ((cs.toList.drop off).drop (j * m)).take m = cs' := by
            apply List.ext_getElem?
            intro i
            rcases Nat.lt_or_ge i m with hi | hi
            · rw [List.getElem?_take_of_lt hi, List.getElem?_drop, List.getElem?_drop, Array.getElem?_toList, ← h4 i hi, Addr.add_add, addr_add, cell_of hb]
            · rw [List.getElem?_eq_none (by rw [List.length_take]; omega), List.getElem?_eq_none (by omega)]
          rw [heq]
          exact ⟨h3, h2 g⟩
        rw [Nat.zero_mul, List.drop_zero, ← List.range_eq_range'] at this
        exact this
      | _ => simp [World.cell?, hb] at h0
/-- What is told of the rows of a []struct out of the data, by what is told of one element. -/
theorem open_list {α : Type} {H : Type} {e : TypeId × Value → H} {P : Program} {W : World} {m T E : Nat} {cs : List Value} {x : DataW H × List MemPlace} (enc : α → List SV) (z0 : α) (hT : P.underlying T = some (.slice E)) (hpos : 0 < P.cellsOf E)
    (h : DataW.trod e P W 0 (fun _ => true) true m T cs = some x) (hel : ∀ n cs' y, DataW.trod e P W 0 (fun _ => true) true n E cs' = some y → ∃ z : α, ∀ g, RepL g W.heap cs' (enc z)) :
    ∃ (v : Value) (l : List α), cs = [v] ∧ Rep ⟨fun _ => none, fun _ => 0, fun _ => 0, fun k => k < W.heap.size⟩ W.heap v (.lst (P.cellsOf E) (l.map enc)) := by
  rcases DataW.trod_slice hT h with ⟨h0, _⟩ | ⟨a, len, cap, elems, rest, n, _, rfl, _, hb, hl, hm, hlen, hE, hsp, _⟩
  · exact ⟨_, [], h0, .nil⟩
  rcases Nat.eq_zero_or_pos len with h00 | hlp
  · subst h00
    exact ⟨_, [], rfl, .nil⟩
  obtain ⟨hrl, hr⟩ := hsp rfl
  obtain ⟨b, l, hlt, _, hrep⟩ := rep_list (W := W) (a := a) (len := len) (cap := cap) enc hpos hl hlp z0 fun j hj => by
    have hy : ∃ y, (W.cells? 0 (a.add (j * P.cellsOf E)) (P.cellsOf E)).bind (DataW.trod e P W 0 (fun _ => true) true n E) = some y := by
      by_cases hi : j < len
      · rw [hE _ hi]
        exact ⟨_, List.getElem?_eq_getElem (by omega)⟩
      · have := hr (j - len) (by omega)
        rw [show len + (j - len) = j by omega] at this
        rw [this]
        exact ⟨_, List.getElem?_eq_getElem (by omega)⟩
    obtain ⟨y, hy⟩ := hy
    rw [Option.bind_eq_some_iff] at hy
    obtain ⟨cs', hcs, hy⟩ := hy
    obtain ⟨z, hz⟩ := hel _ _ _ hy
    exact ⟨cs', z, hcs, hz⟩
  exact ⟨_, l, rfl, hrep _ hlt⟩
end Go.Proofs.YtmcflglkfgnbbaaDoor.Nd

