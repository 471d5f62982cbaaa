/- Texts of this claim, put together: part 2. -/
import Derived.Laws.Pointers
import Derived.Laws.Tables
import Derived.Laws.Entries
import Derived.Great.BuildSlice
import Derived.Laws.BytesArg
import Derived.Laws.Strings
import Derived.Laws.IdiomStrings
import Derived.Laws.IdiomCopy
import Derived.Test.YtmcflglkfgnbbaaDoorMzA
/- Code, and calls. -/
namespace Go.Proofs.YtmcflglkfgnbbaaDoor.Eng
open Go Go.RowKit
set_option linter.unusedVariables false
set_option linter.unusedSimpArgs false

def edgesOk (ops : Array Oper) : Bool := (List.range ops.size).all fun k => match ops[k]? with | some o => o.after.toList.all fun e => !Region.binds .any e || decide (e.on < k) | none => true
theorem edgesOk.of {ops : Array Oper} (h : edgesOk ops = true) (k : Nat) (o : Oper) (ho : ops[k]? = some o) (e : Edge) (he : e ∈ o.after) (hb : Region.binds .any e = true) : e.on < k := by
  have hk := (Array.getElem?_eq_some_iff.1 ho).1
  have h1 := List.all_eq_true.1 h k (List.mem_range.2 hk)
  rw [ho] at h1
  have h2 := List.all_eq_true.1 h1 e (by simpa using he)
  rw [hb] at h2
  simpa using h2
def codeOk (N : Nat) : Code → Bool
  | .region _ ops _ => dstsOk N ops && edgesOk ops
  | .seq a b => codeOk N a && codeOk N b
  | .cond _ a b => codeOk N a && codeOk N b
  | .block _ a => codeOk N a
  | .loop a => codeOk N a
  | .skip => true
  | .exit _ => true
  | .ret => true
  | _ => false
/-- From a told state this code comes, by some exit, to one of which Q holds. -/
def Cwp (P : Program) (c : Code) (s : St) (Q : Exit → St → Prop) : Prop :=
  ∀ (f : Fr) (a : Act) (w : World), codeOk f.N c = true → R f s a w → c.wp P (fun ex a' w' => ∃ s', Q ex s' ∧ R f s' a' w') a w
def thenS (K : St → Prop) (Q : Exit → St → Prop) : Exit → St → Prop
  | .normal, s => K s
  | e, s => Q e s
def blockS (id : Nat) (Q : Exit → St → Prop) : Exit → St → Prop
  | .exit id', s => if id' = id then Q .normal s else Q (.exit id') s
  | e, s => Q e s
/-- What is told may be told with less. -/
def Wk (s s' : St) : Prop := ∀ (f : Fr) (a : Act) (w : World), R f s a w → R f s' a w
section
variable {P : Program} {s : St} {Q : Exit → St → Prop}
theorem cwp_wk {c : Code} {s' : St} (hw : Wk s s') (h : Cwp P c s' Q) : Cwp P c s Q := fun f a w hok hR => h f a w hok (hw f a w hR)
theorem cwp_mono {c : Code} {Q' : Exit → St → Prop} (h : Cwp P c s Q) (hq : ∀ e s', Q e s' → Q' e s') : Cwp P c s Q' := fun f a w hok hR => wp_mono (h f a w hok hR) fun e a' w' ⟨s', hs, hR'⟩ => ⟨s', hq _ _ hs, hR'⟩
theorem cwp_region {id : Nat} {ops : Array Oper} {l : List (List Loc × Eff)} {s' : St} (hc : Chain P ops 0 s l s') (hl : l.length = ops.size) (h : Q .normal s') : Cwp P (.region id ops false) s Q := by
  intro f a w hok hR
  have hok : (dstsOk f.N ops && edgesOk ops) = true := hok
  rw [Bool.and_eq_true] at hok
  refine wp_region ?_
  have := hc.inText (Q := fun ex a' w' => ∃ s', Q ex s' ∧ R f s' a' w') hok.1 hR fun a' w' hR' => ⟨s', h, hR'⟩
  rwa [hl, ← List.range_eq_range'] at this
theorem R.drew {f : Fr} {a : Act} {w : World} (h : R f s a w) : R f s a { w with drawn := w.drawn + 1 } := by
  obtain ⟨g, h⟩ := h
  exact ⟨g, h.drew rfl rfl rfl rfl⟩
theorem cwp_region_draw {id : Nat} {ops : Array Oper} {l : List (List Loc × Eff)} {s' : St} (B : List Nat) (hm : P.follows .mixedOrders = true) (hc : Chain P ops 0 s l s') (hl : l.length = ops.size) (hB : okTab ops B = true) (hI : indepOk B l = true) (h : Q .normal s') :
    Cwp P (.region id ops true) s Q := by
  intro f a w hok hR
  have hok : (dstsOk f.N ops && edgesOk ops) = true := hok
  rw [Bool.and_eq_true] at hok
  refine wp_region_any hm ?_
  refine hc.any (Q := fun ex a' w' => ∃ s', Q ex s' ∧ R f s' a' w') hok.1 hl hB hI (fun k o ho e he hb => edgesOk.of hok.2 k o ho e he hb) ops.size _ (by simp) ?_ ?_ ?_ fun a' w' hR' => ⟨s', h, hR'⟩
  · intro k o ho hk
    simp only [Array.getD_eq_getD_getElem?, Array.getElem?_replicate] at hk
    split at hk <;> cases hk
  · exact Nat.le_trans List.countP_le_length (by simp)
  · have hz : ∀ (l : List (List Loc × Eff)) (i : Nat) (s : St), foldE (fun k => (Array.replicate ops.size false).getD k false) i l s = s := by
      intro l
      induction l with
      | nil => intro i s; rfl
      | cons p l ih =>
        intro i s
        obtain ⟨L, e⟩ := p
        rw [foldE, if_neg (by simp only [Array.getD_eq_getD_getElem?, Array.getElem?_replicate]; split <;> simp)]
        exact ih _ _
    rw [hz]
    exact hR.drew
theorem cwp_skip (h : Q .normal s) : Cwp P .skip s Q := fun f a w _ hR => wp_skip ⟨s, h, hR⟩
theorem cwp_exit {id : Nat} (h : Q (.exit id) s) : Cwp P (.exit id) s Q := fun f a w _ hR => wp_exit ⟨s, h, hR⟩
theorem cwp_ret (h : Q .ret s) : Cwp P .ret s Q := fun f a w _ hR => wp_ret ⟨s, h, hR⟩
theorem cwp_seq {x y : Code} (h : Cwp P x s (thenS (fun s' => Cwp P y s' Q) Q)) : Cwp P (.seq x y) s Q := by
  intro f a w hok hR
  have hok : (codeOk f.N x && codeOk f.N y) = true := hok
  rw [Bool.and_eq_true] at hok
  refine wp_seq (wp_mono (h f a w hok.1 hR) fun e a' w' ⟨s', hs, hR'⟩ => ?_)
  cases e with
  | normal => exact hs f a' w' hok.2 hR'
  | _ => exact ⟨s', hs, hR'⟩
theorem cwp_cond {c : Operand} {x y : Code} {b : Bool} (hc : s.ev c = .v (.bool b)) (h1 : b = true → Cwp P x s Q) (h2 : b = false → Cwp P y s Q) : Cwp P (.cond c x y) s Q := by
  intro f a w hok hR
  have hok : (codeOk f.N x && codeOk f.N y) = true := hok
  rw [Bool.and_eq_true] at hok
  have hR0 := hR
  obtain ⟨g, hg⟩ := hR0
  exact wp_cond_split (ev_v hg (Agree.refl _ _) hc) (fun e => h1 e f a w hok.1 hR) (fun e => h2 e f a w hok.2 hR)
theorem cwp_block {id : Nat} {c : Code} (h : Cwp P c s (blockS id Q)) : Cwp P (.block id c) s Q := by
  intro f a w hok hR
  refine wp_block (wp_mono (h f a w hok hR) fun e a' w' ⟨s', hs, hR'⟩ => ?_)
  cases e with
  | exit id' =>
    have hs : (if id' = id then Q .normal s' else Q (.exit id') s') := hs
    show (if id' = id then _ else _)
    by_cases e : id' = id
    · rw [if_pos e] at hs ⊢; exact ⟨s', hs, hR'⟩
    · rw [if_neg e] at hs ⊢; exact ⟨s', hs, hR'⟩
  | _ => exact ⟨s', hs, hR'⟩
theorem cwp_loop {c : Code} (I : Nat → St → Prop) {n : Nat} (h0 : I n s) (hr : ∀ n s, I n s → Cwp P c s (thenS (fun s' => ∃ m, m < n ∧ I m s') Q)) : Cwp P (.loop c) s Q := by
  intro f a w hok hR
  intro b k cs
  have key : ∀ n s a w, I n s → R f s a w →
      ∃ e a' w', (∃ s', Q e s' ∧ R f s' a' w') ∧ Arrives P (lone (b.at a (.code c :: .inLoop c :: k)) cs w) b k cs e a' w' := by
    intro n
    induction n using Nat.strongRecOn with
    | _ n ih =>
      intro s a w hI hR
      obtain ⟨e, a₁, w₁, ⟨s₁, hq, hR₁⟩, harr⟩ := hr n s hI f a w hok hR b (.inLoop c :: k) cs
      cases e with
      | normal =>
        obtain ⟨m, hlt, hI₁⟩ := hq
        obtain ⟨e₂, a₂, w₂, hq₂, harr₂⟩ := ih m hlt s₁ a₁ w₁ hI₁ hR₁
        exact ⟨e₂, a₂, w₂, hq₂, .of_steps (Steps.trans harr (.one step_inLoop)) harr₂⟩
      | exit id => exact ⟨_, a₁, w₁, ⟨s₁, hq, hR₁⟩, .pass (x := .inLoop c) rfl (fun _ _ => .inl (by simp)) harr⟩
      | goto l => exact ⟨_, a₁, w₁, ⟨s₁, hq, hR₁⟩, .pass (x := .inLoop c) rfl (fun _ _ => .inl (by simp)) harr⟩
      | ret => exact ⟨_, a₁, w₁, ⟨s₁, hq, hR₁⟩, .pass (x := .inLoop c) rfl (fun _ _ => .inl (by simp)) harr⟩
      | panic ch => exact ⟨_, a₁, w₁, ⟨s₁, hq, hR₁⟩, .pass (x := .inLoop c) rfl (fun _ _ => .inl (by simp)) harr⟩
      | outgrown => exact ⟨_, a₁, w₁, ⟨s₁, hq, hR₁⟩, .pass (x := .inLoop c) rfl (fun _ _ => .inl (by simp)) harr⟩
  obtain ⟨e, a', w', hq, harr⟩ := key n s a w h0 hR
  exact ⟨e, a', w', hq, .of_steps (.one step_loop) harr⟩
end

/-! ### What depends on no object -/
def clo (F : Nat → Prop) : Gh := ⟨fun _ => none, fun _ => 0, fun _ => 0, F⟩
mutual
def SV.closed : SV → Bool
  | .v _ => true
  | .ref .. => false
  | .own .. => false
  | .lst _ rows => closedR rows
  | .agg cs => closedL cs
  | .tup cs => closedL cs
  | .elt cs _ => closedL cs
  | .mp _ => false
  | .fn _ cs => closedL cs
def closedL : List SV → Bool
  | [] => true
  | x :: l => x.closed && closedL l
def closedR : List (List SV) → Bool
  | [] => true
  | x :: l => closedL x && closedR l
end
mutual
theorem Rep.clo {g : Gh} {H : Array Go.Obj} : ∀ {x : Value} {s : SV}, Rep g H x s → s.closed = true → Rep (clo g.F) H x s
  | _, _, .v x, _ => .v x
  | _, _, .nil, _ => .nil
  | _, _, .lst hn hF h hl hc hr, hs => .lst hn hF h hl hc (RepR.clo hr hs)
  | _, _, .agg h, hs => .agg (RepL.clo h hs)
  | _, _, .tup h, hs => .tup (RepL.clo h hs)
  | _, _, .elt hF h hj hr, hs => .elt hF h hj (RepL.clo hr hs)
  | _, _, .fn h, hs => .fn (RepL.clo h hs)
theorem RepL.clo {g : Gh} {H : Array Go.Obj} : ∀ {xs : List Value} {ss : List SV}, RepL g H xs ss → closedL ss = true → RepL (Eng.clo g.F) H xs ss
  | _, _, .nil, _ => .nil
  | _, _, .cons (s := s) (ss := ss) h t, hs => by
    have hs : (s.closed && closedL ss) = true := hs
    rw [Bool.and_eq_true] at hs
    exact .cons (Rep.clo h hs.1) (RepL.clo t hs.2)
theorem RepR.clo {g : Gh} {H : Array Go.Obj} : ∀ {xs : List Value} {m : Nat} {rows : List (List SV)}, RepR g H xs m rows → closedR rows = true → RepR (Eng.clo g.F) H xs m rows
  | _, _, _, .nil, _ => .nil
  | _, _, _, .cons (r := r) (rows := rows) hm h t, hs => by
    have hs : (closedL r && closedR rows) = true := hs
    rw [Bool.and_eq_true] at hs
    exact .cons hm (RepL.clo h hs.1) (RepR.clo t hs.2)
end
theorem GExt.clo (g : Gh) : GExt (Eng.clo g.F) g := ⟨fun _ _ h => (by cases h), fun _ h => h⟩
theorem GExt.clo' {F F' : Nat → Prop} (h : ∀ b, F b → F' b) : GExt (Eng.clo F) (Eng.clo F') := ⟨fun _ _ h => (by cases h), h⟩
theorem closedR_all : ∀ {rows : List (List SV)}, (rows.all fun r => closedL r) = true → closedR rows = true
  | [], _ => rfl
  | r :: rows, h => by
    rw [List.all_cons, Bool.and_eq_true] at h
    show (closedL r && closedR rows) = true
    rw [h.1, closedR_all h.2]
    rfl
theorem closedL_all : ∀ {l : List SV}, (l.all fun r => r.closed) = true → closedL l = true
  | [], _ => rfl
  | r :: rows, h => by
    rw [List.all_cons, Bool.and_eq_true] at h
    show (r.closed && closedL rows) = true
    rw [h.1, closedL_all h.2]
    rfl
theorem closedR_map {α : Type} (enc : α → List SV) (h : ∀ x, closedL (enc x) = true) : ∀ l : List α, closedR (l.map enc) = true
  | [] => rfl
  | x :: l => by
    show (closedL (enc x) && closedR (l.map enc)) = true
    rw [h x, closedR_map enc h l]
    rfl
/-- What a slot holds, told without objects: rows that are never written again are told as lists. -/
def Sol (s : St) (sv sv' : SV) (L : List Loc) : Prop :=
  ∀ (f : Fr) (g : Gh) (σ : St) (a : Act) (w : World) (x : Value), Agree L s σ → Rel f g σ a w → Rep g w.heap x sv → Rep (clo g.F) w.heap x sv'
inductive SolL (s : St) : List SV → List SV → List Loc → Prop where
  | nil : SolL s [] [] []
  | cons {x x' : SV} {l l' : List SV} {L M : List Loc} (h : Sol s x x' L) (t : SolL s l l' M) : SolL s (x :: l) (x' :: l') (L ++ M)
theorem SolL.rep {s : St} : ∀ {l l' : List SV} {L : List Loc}, SolL s l l' L → ∀ {f : Fr} {g : Gh} {σ : St} {a : Act} {w : World} {xs : List Value}, Agree L s σ → Rel f g σ a w → RepL g w.heap xs l → RepL (clo g.F) w.heap xs l'
  | _, _, _, .nil, _, _, _, _, _, _, _, _, .nil => .nil
  | _, _, _, .cons h t, _, _, _, _, _, _, hA, hR, .cons hx ht => .cons (h _ _ _ _ _ _ hA.left hR hx) (t.rep hA.right hR ht)
theorem Sol.clo {s : St} {sv : SV} (h : sv.closed = true) : Sol s sv sv [] := fun f g σ a w x hA hR hx => hx.clo h
theorem Sol.agg {s : St} {l l' : List SV} {L : List Loc} (h : SolL s l l' L) : Sol s (.agg l) (.agg l') L := fun f g σ a w x hA hR hx => by
  cases hx with
  | agg hx => exact .agg (h.rep hA hR hx)
theorem Sol.nil {s : St} {m : Nat} : Sol s (.v (.slice none 0 0)) (.lst m []) [] := fun f g σ a w x hA hR hx => by
  obtain rfl := rep_v hx
  exact .nil
theorem Sol.own {s : St} {id lo len : Nat} {ob : Ob} {rows : List (List SV)} (ho : s.obj id = .ob ob) (hz : ob.fz = true) (hr : (ob.rows.drop lo).take len = rows) (hl : rows.length = len) (hc : closedR rows = true) :
    Sol s (.own id lo len) (.lst ob.m rows) [.obj id] := fun f g σ a w x hA hR hx => by
  have ho' : σ.obj id = .ob ob := by rw [hA.2 id (List.mem_singleton.2 rfl)]; exact ho
  obtain ⟨⟨b, cs, T, fr, k1, k2, k3, k4, k5, k6⟩, k7⟩ := hR.ob id ob ho'
  cases hx with
  | @own _ _ _ cap b2 cs2 T2 fr2 hb hlc hH hcap =>
    rw [k1] at hb
    obtain rfl := Option.some.inj hb
    obtain ⟨k7, k2⟩ := k2.cells hH
    rw [k2] at hH
    obtain ⟨rfl, rfl, rfl⟩ := Go.Obj.cells.inj (Option.some.inj hH)
    rcases Nat.eq_zero_or_pos len with h0 | hpos
    · have : rows = [] := List.eq_nil_of_length_eq_zero (by omega)
      subst this
      subst h0
      exact .nil
    · have hlen := congrArg List.length hr
      rw [List.length_take, List.length_drop, hl] at hlen
      have hd := (k3.drop lo (by omega)).take len
      rw [hr, List.drop_drop] at hd
      have hmul : (lo + cap) * g.mm id = lo * g.mm id + cap * g.mm id := Nat.add_mul ..
      rw [k7] at hmul hcap ⊢
      refine .lst hl.symm (k5 hz) k2 hlc (by omega) (RepR.clo hd hc)

/-! ### Calls of functions that take no objects -/
def PCall (P : Program) (fid : FuncId) (args : List SV) (res : SV) : Prop :=
  ∀ (F : Nat → Prop) (w : World) (vs : List Value), (∀ b, F b → b < w.heap.size) → TabsOk F w → RepL (clo F) w.heap vs args →
    Calls P fid vs.toArray w fun e w' => ∃ v F', e = .returned v ∧ Rep (clo F') w'.heap v res ∧ (∀ b, F b → F' b) ∧ (∀ b, F' b → b < w.heap.size → F b) ∧ (∀ b, F' b → b < w'.heap.size) ∧ Below w.heap.size w w'
theorem Rel.after {f : Fr} {g : Gh} {s : St} {a : Act} {w w' : World} (h : Rel f g s a w) {F' : Nat → Prop} (h1 : ∀ b, g.F b → F' b) (h2 : ∀ b, F' b → b < w.heap.size → g.F b) (h3 : ∀ b, F' b → b < w'.heap.size) (hb : Below w.heap.size w w') :
    Rel f { g with F := F' } s a w' := by
  have hg : GExt g { g with F := F' } := ⟨fun _ _ h => ⟨h, rfl, rfl⟩, h1⟩
  have hold : ∀ (b : Nat) (o : Go.Obj), w.heap[b]? = some o → w'.heap[b]? = some o := fun b o hbo => by
    rw [hb.block b (Array.getElem?_eq_some_iff.1 hbo).1]
    exact hbo
  have hH : Ext g.F w.heap w'.heap := ⟨fun b cs T fr h => ⟨cs, fr, hold _ _ h, rfl, fun _ => rfl⟩⟩
  exact { slot := fun t => (h.slot t).ext hg hH, size := h.size, defers := h.defers, never := h.never, ob := fun i o ho => ObRep.ext hg (fun b hF hlt => .inl (h2 b hF hlt)) hH (fun b _ _ cs T fr _ hbo => hbo.mono (hold b)) (h.ob i o ho), inj := h.inj, own := h.own,
          base := fun b hlt hW => by have := h.hsize; rw [hb.block b (by omega)]; exact h.base b hlt hW, hsize := Nat.le_trans h.hsize hb.size, F0 := fun b hF => h1 b (h.F0 b hF), Fold := fun b hF hlt => h.Fold b (h2 b hF (by have := h.hsize; omega)) hlt, Flt := h3,
          os := by rw [hb.os]; exact h.os, tape := by rw [hb.tape]; exact h.tape, output := by rw [hb.output]; exact h.output, gext := h.gext, kept := h.kx hH, tb := h.tb.ext h1 hH }
def frz (l : List (Nat × Ob)) : List (Nat × OS) := l.map fun x => (x.1, .ob ⟨x.2.m, x.2.rows, true⟩)
theorem Rel.freezes {f : Fr} : ∀ (l : List (Nat × Ob)) {g : Gh} {s : St} {a : Act} {w : World}, Rel f g s a w → (∀ x ∈ l, s.obj x.1 = .ob x.2) → (l.map (·.1)).Nodup → ∃ g', GExt g g' ∧ Rel f g' (s.upds (frz l)) a w
  | [], g, s, a, w, h, _, _ => ⟨g, GExt.refl g, h⟩
  | (id, o) :: l, g, s, a, w, h, hl, hn => by
    obtain ⟨g1, hg1, h1⟩ := h.freeze id o (hl (id, o) List.mem_cons_self)
    rw [List.map_cons, List.nodup_cons] at hn
    obtain ⟨g2, hg2, h2⟩ := Rel.freezes l h1 (fun x hx => by
      have hne : x.1 ≠ id := fun e => hn.1 (List.mem_map.2 ⟨x, hx, e⟩)
      show (if x.1 = id then _ else s.obj x.1) = _
      rw [if_neg hne]
      exact hl x (List.mem_cons_of_mem _ hx)) hn.2
    refine ⟨g2, ⟨fun i b hb => ?_, fun b hb => hg2.F b (hg1.F b hb)⟩, h2⟩
    obtain ⟨q1, q2, q3⟩ := hg1.β i b hb
    obtain ⟨r1, r2, r3⟩ := hg2.β i b q1
    exact ⟨r1, by rw [r2, q2], by rw [r3, q3]⟩
def objLocs (l : List (Nat × Ob)) : List Loc := l.map fun x => .obj x.1
section
variable {P : Program} {o : Oper} {s : St}
theorem run_call {fid : FuncId} {fn : Func} {xs : Array Operand} {ts : Array TypeId} (ho : o.op = .call { callee := .value (.func fid), args := xs, argTypes := ts }) (hf : P.funcs[fid]? = some fn) (hname : (fn.name == "runtime.NumGoroutine") = false) (hb : fn.body.isSome = true) (a : Act) (w : World) :
    (execOp a.eval o).run P w = .ok (.enter fid (xs.map a.eval)) w := by
  have h1 : fn.name ≠ "runtime.NumGoroutine" := by simpa using hname
  obtain ⟨c, hc⟩ := Option.isSome_iff_exists.1 hb
  have he : ∀ args : Array Value, (callFunc fid args).run P w = .ok (.enter fid args) w := fun args => by
    simp [callFunc, hf, h1, hc]
  simp [execOp, ho, resolve, Deferred.ofValue, invoke, Act.eval, he]
theorem repL_ev {f : Fr} {g : Gh} {σ : St} {a : Act} {w : World} (hR : Rel f g σ a w) : ∀ (xs : List Operand), RepL g w.heap (xs.map a.eval) (xs.map σ.ev)
  | [] => .nil
  | x :: xs => .cons (hR.ev x) (repL_ev hR xs)
theorem map_ev_agree {σ : St} : ∀ {xs : List Operand}, Agree (locs xs) s σ → xs.map σ.ev = xs.map s.ev
  | [], _ => rfl
  | x :: xs, h => by rw [List.map_cons, List.map_cons, ev_agree h.left, map_ev_agree h.right]
/-- A call. -/
theorem step_call {fid : FuncId} {fn : Func} {xs : Array Operand} {ts : Array TypeId} (ho : o.op = .call { callee := .value (.func fid), args := xs, argTypes := ts }) (hf : P.funcs[fid]? = some fn) (hname : (fn.name == "runtime.NumGoroutine") = false) (hb : fn.body.isSome = true)
    (fzs : List (Nat × Ob)) (hfz : ∀ x ∈ fzs, s.obj x.1 = .ob x.2) (hnd : (fzs.map (·.1)).Nodup) {args : List SV} {res : SV} {L : List Loc} (hargs : SolL (s.upds (frz fzs)) (xs.toList.map s.ev) args L) (hc : PCall P fid args res) :
    Step P o (locs xs.toList ++ objLocs fzs ++ L) ⟨o.dst, res, frz fzs⟩ s := by
  intro f σ a w K Q hA hd ⟨g, hR⟩ hK
  have hobj : ∀ x ∈ fzs, σ.obj x.1 = .ob x.2 := fun x hx => by
    rw [hA.left.right.2 x.1 (List.mem_map.2 ⟨x, hx, rfl⟩)]
    exact hfz x hx
  obtain ⟨g1, hg1, hR1⟩ := hR.freezes fzs hobj hnd
  have hA1 : Agree L (s.upds (frz fzs)) (σ.upds (frz fzs)) := by
    refine ⟨fun t ht => ?_, fun i hi => ?_⟩
    · rw [upds_slot, upds_slot]
      exact hA.right.1 t ht
    · rw [upds_obj, upds_obj, hA.right.2 i hi]
  have hrep := repL_ev hR xs.toList
  rw [map_ev_agree hA.left.left] at hrep
  have hrep1 := hargs.rep hA1 hR1 (hrep.ext hg1 (Ext.refl _ _))
  have hcall := hc g1.F w _ hR1.Flt hR1.tb hrep1
  unfold Oper.wp
  rw [run_call ho hf hname hb, Oper.upon_enter]
  have harr : (xs.map a.eval) = (xs.toList.map a.eval).toArray := by
    apply Array.ext'
    simp
  rw [harr]
  refine hcall.mono fun e w' he => ?_
  obtain ⟨v, F', rfl, hv, h1, h2, h3, hB⟩ := he
  refine hK _ _ ⟨{ g1 with F := F' }, ?_⟩
  have hafter := hR1.after h1 h2 h3 hB
  exact Rel.put hafter o.dst hd (hv.ext (GExt.clo { g1 with F := F' }) (Ext.refl _ _))
end

/-! ### A function's contract, out of its body's -/
def St0 (args : List SV) : St := ⟨fun t => args.getD t (.v undef), fun _ => .never⟩
def Res (P : Program) (fn : Func) (s : St) (res : SV) : Prop :=
  ∀ (f : Fr) (g : Gh) (a : Act) (w : World), Rel f g s a w → ∃ v, (results fn a.tmps).run P w = .ok v w ∧ Rep (clo g.F) w.heap v res
theorem PCall.of {P : Program} {fid : FuncId} {fn : Func} {c : Code} {args : List SV} {res : SV} (hf : P.funcs[fid]? = some fn) (hb : fn.body = some c) (hok : codeOk fn.ntmps c = true) (hn : args.length ≤ fn.ntmps)
    (h : Cwp P c (St0 args) fun ex s' => (ex = .ret ∨ ex = .normal) ∧ Res P fn s' res) : PCall P fid args res := by
  intro F w vs hFlt hTb hrep
  have hvl := hrep.length
  refine calls_of_wp hf hb ?_
  have hR : R ⟨w, fun _ => False, F, fn.ntmps, clo F⟩ (St0 args) { tmps := vs.toArray ++ Array.replicate (fn.ntmps - vs.toArray.size) undef, defers := [] } w := by
    refine ⟨clo F, { slot := fun t => ?_, size := by simp; omega, defers := rfl, never := fun _ _ => rfl, ob := fun i o ho => (by cases ho), inj := fun i j o o' b ho => (by cases ho), own := fun i o b ho => (by cases ho), base := fun _ _ _ => rfl, hsize := Nat.le_refl _, F0 := fun _ h => h, Fold := fun _ h _ => .inl h, Flt := hFlt, os := rfl, tape := rfl, output := rfl, gext := fun _ _ h => ⟨h, rfl, rfl⟩, kept := fun b cs T fr h => ⟨cs, fr, h, rfl⟩, tb := hTb }⟩
    show Rep _ _ _ (args.getD t (.v undef))
    by_cases ht : t < args.length
    · obtain ⟨x, hx, hR⟩ := hrep.get t args[t] (List.getElem?_eq_getElem ht)
      have : (vs.toArray ++ Array.replicate (fn.ntmps - vs.toArray.size) undef).getD t undef = x := by
        rw [Array.getD_eq_getD_getElem?, Array.getElem?_append_left (by simp; omega)]
        simp [hx]
      rw [this, List.getD_eq_getElem?_getD, List.getElem?_eq_getElem ht]
      exact hR
    · have : (vs.toArray ++ Array.replicate (fn.ntmps - vs.toArray.size) undef).getD t undef = undef := by
        rw [Array.getD_eq_getD_getElem?, Array.getElem?_append_right (by simp; omega), Array.getElem?_replicate]
        split <;> rfl
      rw [this, List.getD_eq_getElem?_getD, List.getElem?_eq_none (by omega)]
      exact .v _
  refine wp_mono (h _ _ _ hok hR) fun ex a' w' ⟨s', ⟨hex, hres⟩, g, hR'⟩ => ?_
  obtain ⟨v, hv, hrv⟩ := hres _ _ _ _ hR'
  have hfin : a'.defers = [] ∧ ∃ v, (results fn a'.tmps).run P w' = .ok v w' ∧ ∃ v_1 F', Ending.returned v = .returned v_1 ∧ Rep (clo F') w'.heap v_1 res ∧ (∀ b, F b → F' b) ∧ (∀ b, F' b → b < w.heap.size → F b) ∧ (∀ b, F' b → b < w'.heap.size) ∧ Below w.heap.size w w' :=
    ⟨hR'.defers, v, hv, v, g.F, rfl, hrv, hR'.F0, fun b hF hlt => (hR'.Fold b hF hlt).resolve_right id, hR'.Flt, ⟨hR'.os, hR'.tape, hR'.output, hR'.hsize, fun k hk => hR'.base k hk id⟩⟩
  rcases hex with rfl | rfl
  · exact hfin
  · exact hfin
/-- One result in a slot. -/
theorem res_one {P : Program} {fn : Func} {s : St} {t : Nat} {sv : SV} {L : List Loc} (hr : fn.results = #[.tmp t]) {res : SV} (hs : Sol s (s.slot t) res L) : Res P fn s res := fun f g a w hR => by
  refine ⟨a.tmps.getD t undef, ?_, hs f g s a w _ (Agree.refl _ _) hR (hR.slot t)⟩
  simp [results, hr]
/-- One result in a variable: a struct. -/
theorem res_cell {P : Program} {fn : Func} {s : St} {t : Nat} {T : TypeId} (hr : fn.results = #[.cell t T]) {d : TypeDesc} (hu : P.underlying T = some d) (hd : d.isRow = true) {n : Nat} (hn : (P.info? T).map (·.size) = some n) {id i j : Nat} {ob : Ob} {r cells : List SV}
    (hx : s.slot t = .ref id i j) (hob : s.obj id = .ob ob) (hrow : ob.rows[i]? = some r) (hc : (r.drop j).take n = cells) (hl : cells.length = n) {res : SV} {L : List Loc} (hs : Sol s (.agg cells) res L) : Res P fn s res := fun f g a w hR => by
  have h1 := hR.slot t
  rw [hx] at h1
  obtain ⟨b, hb, he⟩ := rep_ref h1
  have hO := hR.ob id ob hob
  obtain ⟨vs, hvs, hra⟩ := range_vals (cells := cells) (b := b) (off := g.o0 id + i * g.mm id) cells j fun k sv hk => by
    rw [← hc] at hk
    have := hO.cellAt hb (rep_refH h1 hb) hrow (take_get hk)
    rwa [← Nat.add_assoc] at this
  have hm := run_loadVar_mid (P := P) w b (g.o0 id + i * g.mm id + j) T vs d hra hu hd (by rw [hn, hvs.length, hl])
  rw [Nat.add_assoc] at hm
  refine ⟨.agg vs.toArray, ?_, hs f g s a w _ (Agree.refl _ _) hR (.agg (by simpa using hvs))⟩
  have he' : a.tmps[t]?.getD undef = .pointer (some ⟨b, g.o0 id + (i * g.mm id + j), none⟩) := by rw [← Array.getD_eq_getD_getElem?]; exact he
  simp [results, hr, he', asAddr, Sem.run_bind, hm]
end Go.Proofs.YtmcflglkfgnbbaaDoor.Eng

/- The operations, by a table of the types. -/
namespace Go.Proofs.YtmcflglkfgnbbaaDoor.Eng
open Go Go.RowKit
set_option linter.unusedVariables false
set_option linter.unusedSimpArgs false

structure TI where
  row : Bool
  size : Nat
  bytes : Nat
  zero : List SV
  flds : List (Nat × Nat)
  elem : Option Nat
  bool : Bool
  ptr : Bool
  ik : Option IntKind
structure TIok (P : Program) (T : TypeId) (t : TI) : Prop where
  ex : ∃ d i z, P.underlying T = some d ∧ P.info? T = some i ∧ i.zero = some z ∧ d.isRow = t.row ∧ i.size = t.size ∧ i.bytes = t.bytes ∧ z.cells.toList.map SV.v = t.zero ∧ z.cells.size = t.size ∧
    (t.flds ≠ [] → ∃ fs, d = .struct fs ∧ fs.toList.map (fun f => (f.offset, f.type)) = t.flds) ∧ (∀ e, t.elem = some e → d = .slice e) ∧ (t.bool = true → d = .bool) ∧ (t.ptr = true → d = .pointer (P.pointee T)) ∧ (∀ k, t.ik = some k → d = .int k)
/-- A table of types that tells what is so. -/
def Tab (P : Program) (tt : Nat → Option TI) : Prop := ∀ T t, tt T = some t → TIok P T t
section
variable {P : Program} {tt : Nat → Option TI} {o : Oper} {s : St}
theorem TIok.sz {T : TypeId} {t : TI} (h : TIok P T t) : (P.info? T).map (·.size) = some t.size := by
  obtain ⟨d, i, z, h1, h2, h3, h4, h5, _⟩ := h
  rw [h2]
  exact congrArg some h5
theorem TIok.und {T : TypeId} {t : TI} (h : TIok P T t) : ∃ d, P.underlying T = some d ∧ d.isRow = t.row := by
  obtain ⟨d, i, z, h1, h2, h3, h4, _⟩ := h
  exact ⟨d, h1, h4⟩
theorem TIok.sl {T : TypeId} {t : TI} (h : TIok P T t) {e : Nat} (he : t.elem = some e) : P.underlying T = some (.slice e) := by
  obtain ⟨d, i, z, h1, h2, h3, h4, h5, h6, h7, h8, h9, h10, h11⟩ := h
  rw [h1, h10 e he]
theorem TIok.fld {T : TypeId} {t : TI} (h : TIok P T t) {k off ft : Nat} (hk : t.flds[k]? = some (off, ft)) : ∃ fs fl, P.underlying T = some (.struct fs) ∧ fs[k]? = some fl ∧ fl.offset = off ∧ fl.type = ft := by
  obtain ⟨d, i, z, h1, h2, h3, h4, h5, h6, h7, h8, h9, h10, h11⟩ := h
  obtain ⟨fs, rfl, hfs⟩ := h9 (by rintro e; rw [e] at hk; simp at hk)
  rw [← hfs, List.getElem?_map] at hk
  obtain ⟨fl, hfl, he⟩ := Option.map_eq_some_iff.1 hk
  simp only [Prod.mk.injEq] at he
  exact ⟨fs, fl, h1, by simpa using hfl, he.1, he.2⟩
theorem w_load (ht : Tab P tt) {T : TypeId} {x : Operand} (ho : o.op = .load T x) {t : TI} (h1 : tt T = some t) (h2 : t.row = false) {id i j : Nat} {ob : Ob} {r : List SV} {sv : SV}
    (hx : s.ev x = .ref id i j) (hob : s.obj id = .ob ob) (hr : ob.rows[i]? = some r) (hj : r[j]? = some sv) : Step P o (locO x ++ [.obj id]) ⟨o.dst, sv, []⟩ s := by
  obtain ⟨d, hu, hd⟩ := (ht T t h1).und
  exact step_load ho hu (by rw [hd, h2]) hx hob hr hj
theorem w_load_elt (ht : Tab P tt) {T : TypeId} {x : Operand} (ho : o.op = .load T x) {t : TI} (h1 : tt T = some t) (h2 : t.row = false) {cells : List SV} {j : Nat} {sv : SV}
    (hx : s.ev x = .elt cells j) (hj : cells[j]? = some sv) : Step P o (locO x) ⟨o.dst, sv, []⟩ s := by
  obtain ⟨d, hu, hd⟩ := (ht T t h1).und
  exact step_load_elt ho hu (by rw [hd, h2]) hx hj
theorem w_loads (ht : Tab P tt) {T : TypeId} {x : Operand} (ho : o.op = .load T x) {t : TI} (h1 : tt T = some t) (h2 : t.row = true) {id i j : Nat} {ob : Ob} {r cells : List SV}
    (hx : s.ev x = .ref id i j) (hob : s.obj id = .ob ob) (hr : ob.rows[i]? = some r) (hc : (r.drop j).take t.size = cells) (hl : cells.length = t.size) : Step P o (locO x ++ [.obj id]) ⟨o.dst, .agg cells, []⟩ s := by
  obtain ⟨d, hu, hd⟩ := (ht T t h1).und
  exact step_loads ho hu (by rw [hd, h2]) (ht T t h1).sz hx hob hr hc hl
theorem w_loads_elt (ht : Tab P tt) {T : TypeId} {x : Operand} (ho : o.op = .load T x) {t : TI} (h1 : tt T = some t) (h2 : t.row = true) {r cells : List SV} {j : Nat}
    (hx : s.ev x = .elt r j) (hc : (r.drop j).take t.size = cells) (hl : cells.length = t.size) : Step P o (locO x) ⟨o.dst, .agg cells, []⟩ s := by
  obtain ⟨d, hu, hd⟩ := (ht T t h1).und
  exact step_loads_elt ho hu (by rw [hd, h2]) (ht T t h1).sz hx hc hl
theorem w_store (ht : Tab P tt) {T : TypeId} {x y : Operand} (ho : o.op = .store T x y) {t : TI} (h1 : tt T = some t) {id i j : Nat} {ob : Ob} {r cs r' : List SV}
    (hx : s.ev x = .ref id i j) (hob : s.obj id = .ob ob) (hz : ob.fz = false) (hr : ob.rows[i]? = some r) (hcs : (s.ev y).cells = cs) (hy : cs.all SV.one = true) (hl : cs.length = t.size) (hm : j + t.size ≤ r.length) (hr' : owr r j cs = r') {rows' : List (List SV)} (hrows : ob.rows.set i r' = rows') :
    Step P o (locO x ++ locO y ++ [.obj id]) ⟨o.dst, .v undef, [(id, .ob ⟨ob.m, rows', false⟩)]⟩ s := by
  subst hcs hr' hrows
  exact step_store ho (ht T t h1).sz hx hob hz hr hy hl hm
theorem w_alloc (ht : Tab P tt) {T : TypeId} (ho : o.op = .alloc T) {t : TI} (h1 : tt T = some t) (id : Nat) (hid : s.obj id = .never) :
    Step P o [.obj id] ⟨o.dst, .ref id 0 0, [(id, .ob ⟨t.size, [t.zero], false⟩)]⟩ s := by
  obtain ⟨d, i, z, g1, g2, g3, g4, g5, g6, g7, g8, _⟩ := ht T t h1
  have := step_alloc (P := P) (s := s) ho (z := z) (by rw [g2]; exact g3) hid g8
  rwa [g7] at this
theorem w_box {T : TypeId} {x : Operand} (ho : o.op = .box T x) (id : Nat) (hid : s.obj id = .never) {cs : List SV} (hc : (s.ev x).cells = cs) {m : Nat} (hm : cs.length = m) :
    Step P o (locO x ++ [.obj id]) ⟨o.dst, .ref id 0 0, [(id, .ob ⟨m, [cs], false⟩)]⟩ s := by
  subst hc
  exact step_box ho hid hm
theorem w_fieldAddr (ht : Tab P tt) {T : TypeId} {x : Operand} {k : Nat} (ho : o.op = .fieldAddr T x k) {t : TI} (h1 : tt T = some t) {off ft : Nat} (h2 : t.flds[k]? = some (off, ft)) {u : TI} (h3 : tt ft = some u) (h4 : u.size ≠ 0)
    {id i j : Nat} (hx : s.ev x = .ref id i j) {j' : Nat} (hj : j + off = j') : Step P o (locO x) ⟨o.dst, .ref id i j', []⟩ s := by
  obtain ⟨fs, fl, g1, g2, g3, g4⟩ := (ht T t h1).fld h2
  subst g3 g4 hj
  exact step_fieldAddr ho g1 g2 (ht _ u h3).sz h4 hx
theorem w_fieldAddr_elt (ht : Tab P tt) {T : TypeId} {x : Operand} {k : Nat} (ho : o.op = .fieldAddr T x k) {t : TI} (h1 : tt T = some t) {off ft : Nat} (h2 : t.flds[k]? = some (off, ft)) {u : TI} (h3 : tt ft = some u) (h4 : u.size ≠ 0)
    {cells : List SV} {j : Nat} (hx : s.ev x = .elt cells j) {j' : Nat} (hj : j + off = j') : Step P o (locO x) ⟨o.dst, .elt cells j', []⟩ s := by
  obtain ⟨fs, fl, g1, g2, g3, g4⟩ := (ht T t h1).fld h2
  subst g3 g4 hj
  exact step_fieldAddr_elt ho g1 g2 (ht _ u h3).sz h4 hx
theorem w_field (ht : Tab P tt) {T : TypeId} {x : Operand} {k : Nat} (ho : o.op = .field T x k) {t : TI} (h1 : tt T = some t) {off ft : Nat} (h2 : t.flds[k]? = some (off, ft)) {u : TI} (h3 : tt ft = some u) (h4 : u.row = false)
    {cells : List SV} {sv : SV} (hx : s.ev x = .agg cells) (hj : cells[off]? = some sv) : Step P o (locO x) ⟨o.dst, sv, []⟩ s := by
  obtain ⟨fs, fl, g1, g2, g3, g4⟩ := (ht T t h1).fld h2
  subst g3 g4
  obtain ⟨d, hu, hd⟩ := (ht _ u h3).und
  exact step_field ho g1 g2 hu (by rw [hd, h4]) hx hj
theorem w_fields (ht : Tab P tt) {T : TypeId} {x : Operand} {k : Nat} (ho : o.op = .field T x k) {t : TI} (h1 : tt T = some t) {off ft : Nat} (h2 : t.flds[k]? = some (off, ft)) {u : TI} (h3 : tt ft = some u) (h4 : u.row = true)
    {cells cs' : List SV} (hx : s.ev x = .agg cells) (hj : (cells.drop off).take u.size = cs') : Step P o (locO x) ⟨o.dst, .agg cs', []⟩ s := by
  obtain ⟨fs, fl, g1, g2, g3, g4⟩ := (ht T t h1).fld h2
  subst g3 g4
  obtain ⟨d, hu, hd⟩ := (ht _ u h3).und
  exact step_fields ho g1 g2 hu (by rw [hd, h4]) (ht _ u h3).sz hx hj
theorem w_index_own (ht : Tab P tt) {T e : TypeId} {x y : Operand} (ho : o.op = .indexAddr T x y) {t : TI} (h1 : tt T = some t) (h2 : t.elem = some e) {u : TI} (h3 : tt e = some u) {id lo len : Nat} {ob : Ob} {k : IntKind} {i : Int}
    (hx : s.ev x = .own id lo len) (hob : s.obj id = .ob ob) (hom : ob.m = u.size) (hy : s.ev y = .v (.int k i)) (h0 : 0 ≤ i) (h4 : i < len) {q : Nat} (hq : lo + i.toNat = q) : Step P o (locO x ++ locO y ++ [.obj id]) ⟨o.dst, .ref id q 0, []⟩ s := by
  subst hq
  exact step_index_own ho ((ht T t h1).sl h2) (ht e u h3).sz hx hob hom hy h0 h4
theorem w_index_lst (ht : Tab P tt) {T e : TypeId} {x y : Operand} (ho : o.op = .indexAddr T x y) {t : TI} (h1 : tt T = some t) (h2 : t.elem = some e) {u : TI} (h3 : tt e = some u) {m : Nat} {rows : List (List SV)} {r : List SV} {k : IntKind} {i : Int}
    (hx : s.ev x = .lst m rows) (hm : m = u.size) (hy : s.ev y = .v (.int k i)) (h0 : 0 ≤ i) (hr : rows[i.toNat]? = some r) : Step P o (locO x ++ locO y) ⟨o.dst, .elt r 0, []⟩ s := by
  subst hm
  exact step_index_lst ho ((ht T t h1).sl h2) (ht e u h3).sz hx hy h0 hr
theorem w_len (ht : Tab P tt) {x : Operand} {T e : TypeId} (ho : o.op = .call { callee := .builtin .len, args := #[x], argTypes := #[T] }) {t : TI} (h1 : tt T = some t) (h2 : t.elem = some e) {m : Nat} {rows : List (List SV)} {L : List Loc}
    (hx : LstOf s (s.ev x) m rows L) {n : Nat} (hn : rows.length = n) : Step P o (locO x ++ L) ⟨o.dst, .v (.int .i64 (n : Int)), []⟩ s := by
  subst hn
  exact step_len ho ((ht T t h1).sl h2) hx
theorem w_append (ht : Tab P tt) {x y : Operand} {T Ty e e2 : TypeId} (ho : o.op = .call { callee := .builtin .append, args := #[x, y], argTypes := #[T, Ty] }) {t : TI} (h1 : tt T = some t) (h2 : t.elem = some e) {u : TI} (h3 : tt e = some u) {t2 : TI} (h4 : tt Ty = some t2) (h5 : t2.elem = some e2)
    (id' : Nat) {id lo len : Nat} {ob : Ob} {rx ry : List (List SV)} {L : List Loc} (him : u.size = ob.m) (hm0 : 0 < u.size)
    (hx : s.ev x = .own id lo len) (hob : s.obj id = .ob ob) (hfz : ob.fz = false) (hrx : (ob.rows.drop lo).take len = rx) (hlx : rx.length = len) (hy : LstOf s (s.ev y) ob.m ry L) (hone : (ry.all fun r => r.all SV.one) = true) (honex : (rx.all fun r => r.all SV.one) = true)
    (hid : s.obj id' = .never) (hlim : (len + ry.length) * u.bytes ≤ 140737488355328) (h63 : len + ry.length ≤ 9223372036854775807) {n : Nat} (hn : len + ry.length = n) {rows : List (List SV)} (hrows : rx ++ ry = rows) :
    Step P o (locO x ++ locO y ++ L ++ [.obj id] ++ [.obj id']) ⟨o.dst, .own id' 0 n, [(id, .dead), (id', .ob ⟨ob.m, rows, false⟩)]⟩ s := by
  subst hn hrows
  have hsl2 := (ht Ty t2 h4).sl h5
  obtain ⟨d, i, z, g1, g2, g3, g4, g5, g6, g7, g8, _⟩ := ht e u h3
  exact step_append ho ((ht T t h1).sl h2) hsl2 g2 g3 (by rw [g8, g5]) (by rw [g5, him]) (by omega) hx hob hfz hrx hlx hy hone honex hid (by rw [g6]; exact hlim) h63
theorem w_append_nil (ht : Tab P tt) {x y : Operand} {T Ty e e2 : TypeId} (ho : o.op = .call { callee := .builtin .append, args := #[x, y], argTypes := #[T, Ty] }) {t : TI} (h1 : tt T = some t) (h2 : t.elem = some e) {u : TI} (h3 : tt e = some u) {t2 : TI} (h4 : tt Ty = some t2) (h5 : t2.elem = some e2)
    (id' : Nat) {ry : List (List SV)} {L : List Loc} (hm0 : 0 < u.size)
    (hx : s.ev x = .v (.slice none 0 0)) (hy : LstOf s (s.ev y) u.size ry L) (hone : (ry.all fun r => r.all SV.one) = true) (hpos : 0 < ry.length)
    (hid : s.obj id' = .never) (hlim : ry.length * u.bytes ≤ 140737488355328) (h63 : ry.length ≤ 9223372036854775807) {n : Nat} (hn : ry.length = n) :
    Step P o (locO x ++ locO y ++ L ++ [.obj id']) ⟨o.dst, .own id' 0 n, [(id', .ob ⟨u.size, ry, false⟩)]⟩ s := by
  subst hn
  have hsl2 := (ht Ty t2 h4).sl h5
  obtain ⟨d, i, z, g1, g2, g3, g4, g5, g6, g7, g8, _⟩ := ht e u h3
  exact step_append_nil ho ((ht T t h1).sl h2) hsl2 g2 g3 (by rw [g8, g5]) g5 hm0 hx hy hone hpos hid (by rw [g6]; exact hlim) h63

/-! ### Values -/
def abin (op : BinOp) : Value → Value → Option Value
  | .int k a, .int k' b => match op with
    | .shl => if b < 0 then none else some (.int k (k.wrap (a * 2 ^ (min b.toNat k.bits))))
    | .shr => if b < 0 then none else some (.int k (a.fdiv (2 ^ (min b.toNat k.bits))))
    | _ => if k = k' then (match op with
      | .add => some (.int k (k.wrap (a + b)))
      | .sub => some (.int k (k.wrap (a - b)))
      | .mul => some (.int k (k.wrap (a * b)))
      | .quo => if b = 0 then none else some (.int k (k.wrap (a.tdiv b)))
      | .rem => if b = 0 then none else some (.int k (a.tmod b))
      | .eql => some (.bool (a == b))
      | .neq => some (.bool (a != b))
      | .lss => some (.bool (decide (a < b)))
      | .leq => some (.bool (decide (a ≤ b)))
      | .gtr => some (.bool (decide (a > b)))
      | .geq => some (.bool (decide (a ≥ b)))
      | .and => some (.int k (k.wrap ((BitVec.ofInt k.bits a &&& BitVec.ofInt k.bits b).toNat : Nat)))
      | .or => some (.int k (k.wrap ((BitVec.ofInt k.bits a ||| BitVec.ofInt k.bits b).toNat : Nat)))
      | .xor => some (.int k (k.wrap ((BitVec.ofInt k.bits a ^^^ BitVec.ofInt k.bits b).toNat : Nat)))
      | .andNot => some (.int k (k.wrap ((BitVec.ofInt k.bits a &&& ~~~BitVec.ofInt k.bits b).toNat : Nat)))
      | _ => none) else none
  | .string a, .string b => match op with
    | .add => if ((a.size + b.size : Nat) : Int) > 9223372036854775807 then none else some (.string (a ++ b))
    | .eql => some (.bool (a.toList == b.toList))
    | .neq => some (.bool !(a.toList == b.toList))
    | .lss => some (.bool (Op.bytesLess a.toList b.toList))
    | .leq => some (.bool (Op.bytesLess a.toList b.toList || a.toList == b.toList))
    | .gtr => some (.bool !(Op.bytesLess a.toList b.toList || a.toList == b.toList))
    | .geq => some (.bool !(Op.bytesLess a.toList b.toList))
    | _ => none
  | _, _ => none
theorem abin_run {op : BinOp} {T : TypeId} {x y : Value} {v : Value} (h : abin op x y = some v) (w : World) : (binOp op T x y).run P w = .ok v w := by
  cases x <;> cases y <;> first | (cases h; done) | skip
  case int.int k a k' b =>
    cases op <;> simp only [abin] at h <;> (repeat' split at h) <;> first | (cases h; done) | (cases h; subst_vars; simp_all [binOp, Op.intArith, Op.intDiv, Op.intCmp, Op.shift, Op.intBits]; done) | (cases h; subst_vars; simp_all [binOp, Op.intArith, Op.intDiv, Op.intCmp, Op.shift, Op.intBits]; intro h; omega)
  case string.string a b =>
    cases op <;> simp only [abin] at h <;> (repeat' split at h) <;> first | (cases h; done) | (cases h; simp_all [binOp, Op.stringOp, IntKind.max, IntKind.bits, IntKind.signed])
theorem eqGuard_run {op : BinOp} {T : TypeId} {x y : Operand} {a b : Value} {v : Value} (h : abin op a b = some v) (w : World) : (eqGuard op T x y a b).run P w = .ok () w := by
  cases a <;> cases b <;> first | (cases h; done) | (unfold eqGuard; cases op <;> simp)
theorem w_bin {op : BinOp} {T T2 : TypeId} {x y : Operand} (ho : o.op = .binOp op T x y T2) {a b v : Value} (hx : s.ev x = .v a) (hy : s.ev y = .v b) (hv : abin op a b = some v) : Step P o (locO x ++ locO y) ⟨o.dst, .v v, []⟩ s :=
  step_value fun g σ f ac w hA hR => by
    have e1 := ev_v hR hA.left hx
    have e2 := ev_v hR hA.right hy
    refine ⟨v, ?_, .v _⟩
    simp only [execOp, ho, e1, e2]
    simp [Sem.run_bind, eqGuard_run hv, abin_run hv]
theorem w_not {T : TypeId} {x : Operand} (ho : o.op = .unOp .not T x) {b : Bool} (hx : s.ev x = .v (.bool b)) : Step P o (locO x) ⟨o.dst, .v (.bool !b), []⟩ s :=
  step_value fun g σ f ac w hA hR => by
    have e1 := ev_v hR hA hx
    refine ⟨.bool !b, ?_, .v _⟩
    simp only [execOp, ho, e1]
    simp [Op.unary]
end
end Go.Proofs.YtmcflglkfgnbbaaDoor.Eng

/- Calls of functions that take objects, and make some. -/
namespace Go.Proofs.YtmcflglkfgnbbaaDoor.Eng
open Go Go.RowKit
set_option linter.unusedVariables false
set_option linter.unusedSimpArgs false

mutual
def SV.ren (ρ : Nat → Nat) : SV → SV
  | .v x => .v x
  | .ref id i j => .ref (ρ id) i j
  | .own id lo len => .own (ρ id) lo len
  | .lst m rows => .lst m (renR ρ rows)
  | .agg cs => .agg (renL ρ cs)
  | .tup cs => .tup (renL ρ cs)
  | .elt cs j => .elt (renL ρ cs) j
  | .mp id => .mp (ρ id)
  | .fn f cs => .fn f (renL ρ cs)
def renL (ρ : Nat → Nat) : List SV → List SV
  | [] => []
  | x :: l => x.ren ρ :: renL ρ l
def renR (ρ : Nat → Nat) : List (List SV) → List (List SV)
  | [] => []
  | x :: l => renL ρ x :: renR ρ l
end
mutual
def SV.lt (n : Nat) : SV → Bool
  | .v _ => true
  | .ref id _ _ => decide (id < n)
  | .own id _ _ => decide (id < n)
  | .lst _ rows => ltR n rows
  | .agg cs => ltL n cs
  | .tup cs => ltL n cs
  | .elt cs _ => ltL n cs
  | .mp id => decide (id < n)
  | .fn _ cs => ltL n cs
def ltL (n : Nat) : List SV → Bool
  | [] => true
  | x :: l => x.lt n && ltL n l
def ltR (n : Nat) : List (List SV) → Bool
  | [] => true
  | x :: l => ltL n x && ltR n l
end
mutual
theorem SV.closed_lt (n : Nat) : ∀ {s : SV}, s.closed = true → s.lt n = true
  | .v _, _ => rfl
  | .lst _ rows, h => closedR_lt n (rows := rows) h
  | .agg l, h => closedL_lt n (l := l) h
  | .tup l, h => closedL_lt n (l := l) h
  | .elt l _, h => closedL_lt n (l := l) h
  | .fn _ l, h => closedL_lt n (l := l) h
theorem closedL_lt (n : Nat) : ∀ {l : List SV}, closedL l = true → ltL n l = true
  | [], _ => rfl
  | x :: l, h => by
    have h : (x.closed && closedL l) = true := h
    rw [Bool.and_eq_true] at h
    show (x.lt n && ltL n l) = true
    rw [SV.closed_lt n h.1, closedL_lt n h.2]
    rfl
theorem closedR_lt (n : Nat) : ∀ {rows : List (List SV)}, closedR rows = true → ltR n rows = true
  | [], _ => rfl
  | x :: l, h => by
    have h : (closedL x && closedR l) = true := h
    rw [Bool.and_eq_true] at h
    show (ltL n x && ltR n l) = true
    rw [closedL_lt n h.1, closedR_lt n h.2]
    rfl
end
mutual
theorem SV.closed_ren (ρ : Nat → Nat) : ∀ {s : SV}, s.closed = true → s.ren ρ = s
  | .v _, _ => rfl
  | .lst m rows, h => congrArg (SV.lst m) (closedR_ren ρ (rows := rows) h)
  | .agg l, h => congrArg SV.agg (closedL_ren ρ (l := l) h)
  | .tup l, h => congrArg SV.tup (closedL_ren ρ (l := l) h)
  | .elt l j, h => congrArg (fun x => SV.elt x j) (closedL_ren ρ (l := l) h)
  | .fn f l, h => congrArg (SV.fn f) (closedL_ren ρ (l := l) h)
theorem closedL_ren (ρ : Nat → Nat) : ∀ {l : List SV}, closedL l = true → renL ρ l = l
  | [], _ => rfl
  | x :: l, h => by
    have h : (x.closed && closedL l) = true := h
    rw [Bool.and_eq_true] at h
    show x.ren ρ :: renL ρ l = _
    rw [SV.closed_ren ρ h.1, closedL_ren ρ h.2]
theorem closedR_ren (ρ : Nat → Nat) : ∀ {rows : List (List SV)}, closedR rows = true → renR ρ rows = rows
  | [], _ => rfl
  | x :: l, h => by
    have h : (closedL x && closedR l) = true := h
    rw [Bool.and_eq_true] at h
    show renL ρ x :: renR ρ l = _
    rw [closedL_ren ρ h.1, closedR_ren ρ h.2]
end

theorem renL_length (ρ : Nat → Nat) : ∀ l : List SV, (renL ρ l).length = l.length
  | [] => rfl
  | x :: l => by
    show (x.ren ρ :: renL ρ l).length = _
    rw [List.length_cons, List.length_cons, renL_length ρ l]
theorem renR_length (ρ : Nat → Nat) : ∀ l : List (List SV), (renR ρ l).length = l.length
  | [] => rfl
  | x :: l => by
    show (renL ρ x :: renR ρ l).length = _
    rw [List.length_cons, List.length_cons, renR_length ρ l]
theorem renL_get (ρ : Nat → Nat) : ∀ (l : List SV) (i : Nat), (renL ρ l)[i]? = l[i]?.map (SV.ren ρ)
  | [], i => by simp [renL]
  | x :: l, 0 => rfl
  | x :: l, i + 1 => by
    show (x.ren ρ :: renL ρ l)[i + 1]? = _
    rw [List.getElem?_cons_succ, List.getElem?_cons_succ, renL_get ρ l i]

/-- What one tells, the other tells under other names. -/
structure Push (g1 g2 : Gh) (ρ : Nat → Nat) (m : Nat) : Prop where
  β : ∀ i b, i < m → g1.β i = some b → g2.β (ρ i) = some b ∧ g2.mm (ρ i) = g1.mm i ∧ g2.o0 (ρ i) = g1.o0 i
  F : ∀ b, g1.F b → g2.F b
mutual
theorem Rep.push {g1 g2 : Gh} {ρ : Nat → Nat} {m : Nat} (hp : Push g1 g2 ρ m) {H : Array Go.Obj} : ∀ {x : Value} {s : SV}, Rep g1 H x s → s.lt m = true → Rep g2 H x (s.ren ρ)
  | _, _, .v x, _ => .v x
  | _, _, @Rep.ref _ _ id i j b cs T fr hb h, hs => by
    obtain ⟨h1, h2, h3⟩ := hp.β _ _ (of_decide_eq_true hs) hb
    rw [← h2, ← h3]
    exact .ref h1 h
  | _, _, @Rep.mp _ _ id b hb hm, hs => by
    obtain ⟨h1, h2, h3⟩ := hp.β _ _ (of_decide_eq_true hs) hb
    exact .mp h1 (by rw [h2, hm])
  | _, _, .fn h, hs => .fn (RepL.push hp h hs)
  | _, _, @Rep.own _ _ id lo len cap b cs T fr hb hl h hc, hs => by
    obtain ⟨h1, h2, h3⟩ := hp.β _ _ (of_decide_eq_true hs) hb
    rw [← h2, ← h3] at hc ⊢
    exact .own h1 hl h hc
  | _, _, .nil, _ => .nil
  | _, _, @Rep.lst _ _ m b off n cap rows cs T fr hn hF h hl hc hr, hs => by
    refine .lst ?_ (hp.F _ hF) h hl hc (RepR.push hp hr hs)
    rw [hn]
    exact (renR_length ρ rows).symm
  | _, _, .agg h, hs => .agg (RepL.push hp h hs)
  | _, _, .tup h, hs => .tup (RepL.push hp h hs)
  | _, _, @Rep.elt _ _ b off j cells cs T fr hF h hj hr, hs => by
    refine .elt (hp.F _ hF) h ?_ ?_
    · rw [renL_length]; exact hj
    · rw [renL_length]; exact RepL.push hp hr hs
theorem RepL.push {g1 g2 : Gh} {ρ : Nat → Nat} {m : Nat} (hp : Push g1 g2 ρ m) {H : Array Go.Obj} : ∀ {xs : List Value} {ss : List SV}, RepL g1 H xs ss → ltL m ss = true → RepL g2 H xs (renL ρ ss)
  | _, _, .nil, _ => .nil
  | _, _, .cons (s := s) (ss := ss) h t, hs => by
    have hs : (s.lt m && ltL m ss) = true := hs
    rw [Bool.and_eq_true] at hs
    exact .cons (Rep.push hp h hs.1) (RepL.push hp t hs.2)
theorem RepR.push {g1 g2 : Gh} {ρ : Nat → Nat} {m : Nat} (hp : Push g1 g2 ρ m) {H : Array Go.Obj} : ∀ {xs : List Value} {k : Nat} {rows : List (List SV)}, RepR g1 H xs k rows → ltR m rows = true → RepR g2 H xs k (renR ρ rows)
  | _, _, _, .nil, _ => .nil
  | _, _, _, .cons (r := r) (rows := rows) hm h t, hs => by
    have hs : (ltL m r && ltR m rows) = true := hs
    rw [Bool.and_eq_true] at hs
    exact .cons hm (RepL.push hp h hs.1) (RepR.push hp t hs.2)
end

/-- The caller's names back into the callee's. -/
structure Pull (g1 g2 : Gh) (ρ : Nat → Nat) (m : Nat) : Prop where
  β : ∀ i b, i < m → g2.β (ρ i) = some b → g1.β i = some b ∧ g1.mm i = g2.mm (ρ i) ∧ g1.o0 i = g2.o0 (ρ i)
  F : ∀ b, g2.F b → g1.F b
mutual
theorem Rep.pull {g1 g2 : Gh} {ρ : Nat → Nat} {m : Nat} (hp : Pull g1 g2 ρ m) {H : Array Go.Obj} : ∀ {s : SV} {x : Value}, Rep g2 H x (s.ren ρ) → s.lt m = true → Rep g1 H x s
  | .v x, _, .v _, _ => .v x
  | .ref id i j, x, h, hs => by
    have h : Rep g2 H x (.ref (ρ id) i j) := h
    cases h with
    | ref hb hH =>
      obtain ⟨h1, h2, h3⟩ := hp.β _ _ (of_decide_eq_true hs) hb
      rw [← h2, ← h3]
      exact .ref h1 hH
  | .mp id, x, h, hs => by
    have h : Rep g2 H x (.mp (ρ id)) := h
    cases h with
    | mp hb hm =>
      obtain ⟨h1, h2, h3⟩ := hp.β _ _ (of_decide_eq_true hs) hb
      exact .mp h1 (by rw [h2, hm])
  | .fn f l, x, h, hs => by
    have h : Rep g2 H x (.fn f (renL ρ l)) := h
    cases h with
    | fn h => exact .fn (RepL.pull hp h hs)
  | .own id lo len, x, h, hs => by
    have h : Rep g2 H x (.own (ρ id) lo len) := h
    cases h with
    | own hb hl hH hc =>
      obtain ⟨h1, h2, h3⟩ := hp.β _ _ (of_decide_eq_true hs) hb
      rw [← h2, ← h3] at hc ⊢
      exact .own h1 hl hH hc
  | .lst k rows, x, h, hs => by
    have h : Rep g2 H x (.lst k (renR ρ rows)) := h
    generalize hq : renR ρ rows = q at h
    cases h with
    | nil =>
      cases rows with
      | nil => exact .nil
      | cons r rows => cases hq
    | lst hn hF hH hl hc hr =>
      subst hq
      exact .lst (by rw [hn, renR_length]) (hp.F _ hF) hH hl hc (RepR.pull hp hr hs)
  | .agg l, x, h, hs => by
    have h : Rep g2 H x (.agg (renL ρ l)) := h
    cases h with
    | agg h => exact .agg (RepL.pull hp h hs)
  | .tup l, x, h, hs => by
    have h : Rep g2 H x (.tup (renL ρ l)) := h
    cases h with
    | tup h => exact .tup (RepL.pull hp h hs)
  | .elt l j, x, h, hs => by
    have h : Rep g2 H x (.elt (renL ρ l) j) := h
    cases h with
    | elt hF hH hj hr =>
      rw [renL_length] at hj hr
      exact .elt (hp.F _ hF) hH hj (RepL.pull hp hr hs)
theorem RepL.pull {g1 g2 : Gh} {ρ : Nat → Nat} {m : Nat} (hp : Pull g1 g2 ρ m) {H : Array Go.Obj} : ∀ {ss : List SV} {xs : List Value}, RepL g2 H xs (renL ρ ss) → ltL m ss = true → RepL g1 H xs ss
  | [], _, .nil, _ => .nil
  | s :: ss, _, .cons h t, hs => by
    have hs : (s.lt m && ltL m ss) = true := hs
    rw [Bool.and_eq_true] at hs
    exact .cons (Rep.pull hp h hs.1) (RepL.pull hp t hs.2)
theorem RepR.pull {g1 g2 : Gh} {ρ : Nat → Nat} {m : Nat} (hp : Pull g1 g2 ρ m) {H : Array Go.Obj} : ∀ {rows : List (List SV)} {k : Nat} {xs : List Value}, RepR g2 H xs k (renR ρ rows) → ltR m rows = true → RepR g1 H xs k rows
  | [], _, _, _, _ => .nil
  | r :: rows, k, _, .cons hm h t, hs => by
    have hs : (ltL m r && ltR m rows) = true := hs
    rw [Bool.and_eq_true] at hs
    exact .cons hm (RepL.pull hp h hs.1) (RepR.pull hp t hs.2)
end
end Go.Proofs.YtmcflglkfgnbbaaDoor.Eng

/- Contracts of functions that take objects. -/
namespace Go.Proofs.YtmcflglkfgnbbaaDoor.Eng
open Go Go.RowKit
set_option linter.unusedVariables false
set_option linter.unusedSimpArgs false

/-- The blocks of the objects that are handed in and may be written. -/
def HWr (objs : List Ob) (g : Gh) (b : Nat) : Prop := ∃ i o, objs[i]? = some o ∧ o.fz = false ∧ g.β i = some b
structure HPost (objs : List Ob) (objs' : List OS) (g g' : Gh) (w w' : World) : Prop where
  ob : ∀ i o, objs'[i]? = some (OS.ob o) → ObRep g' w'.heap i o
  inj : ∀ i j o o' b, objs'[i]? = some (OS.ob o) → objs'[j]? = some (OS.ob o') → o.fz = false → o'.fz = false → g'.β i = some b → g'.β j = some b → i = j
  own : ∀ i o b, objs'[i]? = some (OS.ob o) → o.fz = false → g'.β i = some b → w.heap.size ≤ b ∨ HWr objs g b
  base : ∀ b, b < w.heap.size → ¬ HWr objs g b → w'.heap[b]? = w.heap[b]?
  hsize : w.heap.size ≤ w'.heap.size
  F0 : ∀ b, g.F b → g'.F b
  Fold : ∀ b, g'.F b → b < w.heap.size → g.F b ∨ HWr objs g b
  Flt : ∀ b, g'.F b → b < w'.heap.size
  os : w'.os = w.os
  tape : w'.tape = w.tape
  output : w'.output = w.output
  gext : ∀ id b, g.β id = some b → g'.β id = some b ∧ g'.mm id = g.mm id ∧ g'.o0 id = g.o0 id
  kept : ∀ (b : Nat) (cs : Array Value) (T : TypeId) (fr : Nat × Nat), w.heap[b]? = some (Go.Obj.cells cs T fr) → ∃ (cs' : Array Value) (fr' : Nat × Nat), w'.heap[b]? = some (Go.Obj.cells cs' T fr') ∧ cs'.size = cs.size
structure HPre (objs : List Ob) (g : Gh) (w : World) : Prop where
  tb : TabsOk g.F w
  Flt : ∀ b, g.F b → b < w.heap.size
  ob : ∀ i o, objs[i]? = some o → ObRep g w.heap i o
  never : ∀ i, objs.length ≤ i → g.β i = none
  inj : ∀ i j o o' b, objs[i]? = some o → objs[j]? = some o' → o.fz = false → o'.fz = false → g.β i = some b → g.β j = some b → i = j
def HCall (P : Program) (fid : FuncId) (objs : List Ob) (args : List SV) (objs' : List OS) (res : SV) : Prop :=
  ∀ (g : Gh) (w : World) (vs : List Value), HPre objs g w → RepL g w.heap vs args →
    Calls P fid vs.toArray w fun e w' => ∃ v g', e = .returned v ∧ Rep g' w'.heap v res ∧ HPost objs objs' g g' w w'
def StH (objs : List Ob) (args : List SV) : St := ⟨fun t => args.getD t (.v undef), fun i => match objs[i]? with | some o => .ob o | none => .never⟩
def ResH (P : Program) (fn : Func) (s : St) (res : SV) : Prop :=
  ∀ (f : Fr) (g : Gh) (a : Act) (w : World), Rel f g s a w → ∃ v, (results fn a.tmps).run P w = .ok v w ∧ Rep g w.heap v res
theorem HCall.of {P : Program} {fid : FuncId} {fn : Func} {c : Code} {objs : List Ob} {args : List SV} {objs' : List OS} {res : SV} (hf : P.funcs[fid]? = some fn) (hb : fn.body = some c) (hok : codeOk fn.ntmps c = true) (hn : args.length ≤ fn.ntmps)
    (h : Cwp P c (StH objs args) fun ex s' => (ex = .ret ∨ ex = .normal) ∧ ResH P fn s' res ∧ ∀ i x, objs'[i]? = some x → s'.obj i = x) : HCall P fid objs args objs' res := by
  intro g w vs hp hrep
  have hvl := hrep.length
  refine calls_of_wp hf hb ?_
  have hR : R ⟨w, HWr objs g, g.F, fn.ntmps, g⟩ (StH objs args) { tmps := vs.toArray ++ Array.replicate (fn.ntmps - vs.toArray.size) undef, defers := [] } w := by
    have hob : ∀ i o, (StH objs args).obj i = .ob o → objs[i]? = some o := fun i o ho => by
      have ho : (match objs[i]? with | some o => OS.ob o | none => .never) = .ob o := ho
      cases hi : objs[i]? with
      | none => rw [hi] at ho; cases ho
      | some p => rw [hi] at ho; cases ho; rfl
    refine ⟨g, { slot := fun t => ?_, size := by simp; omega, defers := rfl, never := fun i hi => hp.never i ?_, ob := fun i o ho => hp.ob i o (hob i o ho), inj := fun i j o o' b ho ho' => hp.inj i j o o' b (hob i o ho) (hob j o' ho'), own := fun i o b ho hz hb => .inr ⟨i, o, hob i o ho, hz, hb⟩, base := fun _ _ _ => rfl, hsize := Nat.le_refl _, F0 := fun _ h => h, Fold := fun _ h _ => .inl h, Flt := hp.Flt, os := rfl, tape := rfl, output := rfl, gext := fun _ _ h => ⟨h, rfl, rfl⟩, kept := fun b cs T fr h => ⟨cs, fr, h, rfl⟩, tb := hp.tb }⟩
    · show Rep _ _ _ (args.getD t (.v undef))
      by_cases ht : t < args.length
      · obtain ⟨x, hx, hR⟩ := hrep.get t args[t] (List.getElem?_eq_getElem ht)
        have : (vs.toArray ++ Array.replicate (fn.ntmps - vs.toArray.size) undef).getD t undef = x := by
          rw [Array.getD_eq_getD_getElem?, Array.getElem?_append_left (by simp; omega)]
          simp [hx]
        rw [this, List.getD_eq_getElem?_getD, List.getElem?_eq_getElem ht]
        exact hR
      · have : (vs.toArray ++ Array.replicate (fn.ntmps - vs.toArray.size) undef).getD t undef = undef := by
          rw [Array.getD_eq_getD_getElem?, Array.getElem?_append_right (by simp; omega), Array.getElem?_replicate]
          split <;> rfl
        rw [this, List.getD_eq_getElem?_getD, List.getElem?_eq_none (by omega)]
        exact .v _
    · have hi : (match objs[i]? with | some o => OS.ob o | none => .never) = .never := hi
      cases hq : objs[i]? with
      | none => exact List.getElem?_eq_none_iff.1 hq
      | some p => rw [hq] at hi; cases hi
  refine wp_mono (h _ _ _ hok hR) fun ex a' w' ⟨s', ⟨hex, hres, hobs⟩, g', hR'⟩ => ?_
  obtain ⟨v, hv, hrv⟩ := hres _ _ _ _ hR'
  have hpost : HPost objs objs' g g' w w' :=
    { ob := fun i o ho => hR'.ob i o (hobs i _ ho), inj := fun i j o o' b ho ho' => hR'.inj i j o o' b (hobs i _ ho) (hobs j _ ho'), own := fun i o b ho => hR'.own i o b (hobs i _ ho), base := hR'.base, hsize := hR'.hsize, F0 := hR'.F0, Fold := hR'.Fold, Flt := hR'.Flt, os := hR'.os, tape := hR'.tape, output := hR'.output, gext := hR'.gext, kept := hR'.kept }
  have hfin : a'.defers = [] ∧ ∃ v, (results fn a'.tmps).run P w' = .ok v w' ∧ ∃ v_1 g', Ending.returned v = .returned v_1 ∧ Rep g' w'.heap v_1 res ∧ HPost objs objs' g g' w w' :=
    ⟨hR'.defers, v, hv, v, g', rfl, hrv, hpost⟩
  rcases hex with rfl | rfl
  · exact hfin
  · exact hfin
/-- One result in a slot. -/
theorem resH_one {P : Program} {fn : Func} {s : St} {t : Nat} (hr : fn.results = #[.tmp t]) {res : SV} (hs : s.slot t = res) : ResH P fn s res := fun f g a w hR => by
  refine ⟨a.tmps.getD t undef, ?_, by rw [← hs]; exact hR.slot t⟩
  simp [results, hr]
theorem resH_none {P : Program} {fn : Func} {s : St} (hr : fn.results = #[]) : ResH P fn s (.tup []) := fun f g a w hR => by
  refine ⟨.tuple #[], ?_, .tup .nil⟩
  simp [results, hr]
theorem resH_two {P : Program} {fn : Func} {s : St} {t u : Nat} (hr : fn.results = #[.tmp t, .tmp u]) {res res' : SV} (hs : s.slot t = res) (hs' : s.slot u = res') : ResH P fn s (.tup [res, res']) := fun f g a w hR => by
  refine ⟨.tuple #[a.tmps.getD t undef, a.tmps.getD u undef], ?_, .tup (.cons (by rw [← hs]; exact hR.slot t) (.cons (by rw [← hs']; exact hR.slot u) .nil))⟩
  simp [results, hr]

/-! ### The call -/
def Ob.ren (ρ : Nat → Nat) (o : Ob) : Ob := ⟨o.m, renR ρ o.rows, o.fz⟩
def OS.ren (ρ : Nat → Nat) : OS → OS
  | .never => .never
  | .dead => .dead
  | .ob o => .ob (o.ren ρ)
def OS.okH (n : Nat) : OS → Bool
  | .never => false
  | .dead => true
  | .ob o => ltR n o.rows
def nameH (ids : List Nat) (i : Nat) : Nat := ids.getD i 0
def pullG (g : Gh) (ρ : Nat → Nat) (n : Nat) : Gh := ⟨fun i => if i < n then g.β (ρ i) else none, fun i => g.o0 (ρ i), fun i => g.mm (ρ i), g.F⟩
/-- What a slot holds, told under the callee's names. -/
def SolH (ρ : Nat → Nat) (n : Nat) (s : St) (sv sv' : SV) (L : List Loc) : Prop :=
  ∀ (f : Fr) (g : Gh) (σ : St) (a : Act) (w : World) (x : Value), Agree L s σ → Rel f g σ a w → Rep g w.heap x sv → Rep (pullG g ρ n) w.heap x sv'
theorem pull_pullG (g : Gh) (ρ : Nat → Nat) (n : Nat) : Pull (pullG g ρ n) g ρ n := ⟨fun i b hi hb => ⟨by show (if i < n then _ else _) = _; rw [if_pos hi]; exact hb, rfl, rfl⟩, fun _ h => h⟩
theorem SolH.ren {ρ : Nat → Nat} {n : Nat} {s : St} {sv sv' : SV} (h : sv'.ren ρ = sv) (hlt : sv'.lt n = true) : SolH ρ n s sv sv' [] := fun f g σ a w x hA hR hx => by
  subst h
  exact hx.pull (pull_pullG g ρ n) hlt
theorem SolH.sol {ρ : Nat → Nat} {n : Nat} {s : St} {sv sv' : SV} {L : List Loc} (h : Sol s sv sv' L) : SolH ρ n s sv sv' L := fun f g σ a w x hA hR hx => by
  have hg : GExt (clo g.F) (pullG g ρ n) := ⟨fun _ _ h => (by cases h), fun _ h => h⟩
  exact (h f g σ a w x hA hR hx).ext hg (Ext.refl _ _)
inductive SolHL (ρ : Nat → Nat) (n : Nat) (s : St) : List SV → List SV → List Loc → Prop where
  | nil : SolHL ρ n s [] [] []
  | cons {x x' : SV} {l l' : List SV} {L M : List Loc} (h : SolH ρ n s x x' L) (t : SolHL ρ n s l l' M) : SolHL ρ n s (x :: l) (x' :: l') (L ++ M)
theorem SolHL.rep {ρ : Nat → Nat} {n : Nat} {s : St} : ∀ {l l' : List SV} {L : List Loc}, SolHL ρ n s l l' L → ∀ {f : Fr} {g : Gh} {σ : St} {a : Act} {w : World} {xs : List Value}, Agree L s σ → Rel f g σ a w → RepL g w.heap xs l → RepL (pullG g ρ n) w.heap xs l'
  | _, _, _, .nil, _, _, _, _, _, _, _, _, .nil => .nil
  | _, _, _, .cons h t, _, _, _, _, _, _, hA, hR, .cons hx ht => .cons (h _ _ _ _ _ _ hA.left hR hx) (t.rep hA.right hR ht)
/-- The objects that a call leaves. -/
def zipH (ρ : Nat → Nat) : List Nat → List OS → List (Nat × OS)
  | i :: l, x :: m => (i, x.ren ρ) :: zipH ρ l m
  | _, _ => []
theorem zipH_obj (ρ : Nat → Nat) : ∀ (l : List Nat) (m : List OS) (s : St) (i : Nat), l.Nodup → l.length = m.length →
    (s.upds (zipH ρ l m)).obj i = match l.idxOf? i with | some j => ((m[j]?).map (OS.ren ρ)).getD (s.obj i) | none => s.obj i
  | [], [], s, i, _, _ => rfl
  | k :: l, x :: m, s, i, hn, hl => by
    rw [List.nodup_cons] at hn
    show ((s.upd k (x.ren ρ)).upds (zipH ρ l m)).obj i = _
    rw [zipH_obj ρ l m _ i hn.2 (by simpa using hl), List.idxOf?_cons]
    by_cases e : k = i
    · subst e
      have : l.idxOf? k = none := List.idxOf?_eq_none_iff.2 hn.1
      rw [this, if_pos (by simp)]
      show (if k = k then x.ren ρ else _) = _
      rw [if_pos rfl]
      rfl
    · rw [if_neg (by simpa using e)]
      have hs : (s.upd k (x.ren ρ)).obj i = s.obj i := by show (if i = k then _ else _) = _; rw [if_neg (Ne.symm e)]
      cases hq : l.idxOf? i with
      | none => exact hs
      | some j =>
        show ((m[j]?).map (OS.ren ρ)).getD _ = (((x :: m)[j + 1]?).map (OS.ren ρ)).getD _
        rw [hs, List.getElem?_cons_succ]
theorem zipH_slot (ρ : Nat → Nat) (l : List Nat) (m : List OS) (s : St) (t : Nat) : (s.upds (zipH ρ l m)).slot t = s.slot t := upds_slot _ _ _

theorem nameH_get {nm : List Nat} {j id : Nat} (h : nm[j]? = some id) : nameH nm j = id := by
  unfold nameH
  rw [List.getD_eq_getElem?_getD, h]
  rfl
theorem idx_get {nm : List Nat} (hn : nm.Nodup) {j id : Nat} (h : nm[j]? = some id) : nm.idxOf? id = some j := by
  induction nm generalizing j with
  | nil => simp at h
  | cons k nm ih =>
    rw [List.nodup_cons] at hn
    rw [List.idxOf?_cons]
    cases j with
    | zero =>
      simp only [List.getElem?_cons_zero, Option.some.injEq] at h
      rw [if_pos (by simpa using h)]
    | succ j =>
      rw [List.getElem?_cons_succ] at h
      have hk : k ≠ id := by rintro rfl; exact hn.1 (List.mem_of_getElem? h)
      rw [if_neg (by simpa using hk), ih hn.2 h]
      rfl
theorem get_idx {nm : List Nat} {j id : Nat} (h : nm.idxOf? id = some j) : nm[j]? = some id := by
  induction nm generalizing j with
  | nil => simp at h
  | cons k nm ih =>
    rw [List.idxOf?_cons] at h
    by_cases e : k = id
    · rw [if_pos (by simpa using e)] at h
      cases h
      simp [e]
    · rw [if_neg (by simpa using e)] at h
      obtain ⟨j', hj', rfl⟩ := Option.map_eq_some_iff.1 h
      rw [List.getElem?_cons_succ]
      exact ih hj'
def afterG (g gc : Gh) (nm : List Nat) (n : Nat) : Gh :=
  ⟨fun i => match nm.idxOf? i with | some j => if j < n then g.β i else gc.β j | none => g.β i,
   fun i => match nm.idxOf? i with | some j => if j < n then g.o0 i else gc.o0 j | none => g.o0 i,
   fun i => match nm.idxOf? i with | some j => if j < n then g.mm i else gc.mm j | none => g.mm i, gc.F⟩
theorem afterG_old {g gc : Gh} {nm : List Nat} {n i : Nat} (h : ∀ j, nm.idxOf? i = some j → j < n) : (afterG g gc nm n).β i = g.β i ∧ (afterG g gc nm n).o0 i = g.o0 i ∧ (afterG g gc nm n).mm i = g.mm i := by
  cases hq : nm.idxOf? i with
  | none => exact ⟨by simp [afterG, hq], by simp [afterG, hq], by simp [afterG, hq]⟩
  | some j => have := h j hq; exact ⟨by simp [afterG, hq, this], by simp [afterG, hq, this], by simp [afterG, hq, this]⟩
theorem afterG_new {g gc : Gh} {nm : List Nat} {n i j : Nat} (h : nm.idxOf? i = some j) (hj : ¬ j < n) : (afterG g gc nm n).β i = gc.β j ∧ (afterG g gc nm n).o0 i = gc.o0 j ∧ (afterG g gc nm n).mm i = gc.mm j :=
  ⟨by simp [afterG, h, hj], by simp [afterG, h, hj], by simp [afterG, h, hj]⟩
theorem Rel.afterH {f : Fr} {g gc : Gh} {σ : St} {a : Act} {w w' : World} (h : Rel f g σ a w) {ids new : List Nat} (hn : (ids ++ new).Nodup) {objs : List Ob} {objs' : List OS}
    (hin : ids.map σ.obj = objs.map fun o => .ob (o.ren (nameH (ids ++ new)))) (hnew : ∀ i ∈ new, σ.obj i = .never) (hl : objs'.length = (ids ++ new).length) (hok : objs'.all (OS.okH (ids ++ new).length) = true)
    (post : HPost objs objs' (pullG g (nameH (ids ++ new)) ids.length) gc w w') :
    ∃ g2, GExt g g2 ∧ Ext g.F w.heap w'.heap ∧ Push gc g2 (nameH (ids ++ new)) (ids ++ new).length ∧ Rel f g2 (σ.upds (zipH (nameH (ids ++ new)) (ids ++ new) objs')) a w' := by
  generalize hnm : ids ++ new = nm at *
  generalize hρ : nameH nm = ρ at *
  have hlen : ids.length = objs.length := by have := congrArg List.length hin; simpa using this
  have hnl : nm.length = ids.length + new.length := by rw [← hnm, List.length_append]
  have hρg : ∀ j id, nm[j]? = some id → ρ j = id := fun j id hj => by rw [← hρ]; exact nameH_get hj
  -- what was handed in
  have hA : ∀ j id, nm[j]? = some id → j < ids.length → ∃ o b, objs[j]? = some o ∧ σ.obj id = .ob (o.ren ρ) ∧ g.β id = some b ∧ gc.β j = some b ∧ gc.mm j = g.mm id ∧ gc.o0 j = g.o0 id := fun j id hj hlt => by
    have h1 : ids[j]? = some id := by rw [← hnm, List.getElem?_append_left hlt] at hj; exact hj
    have h2 := congrArg (fun l => l[j]?) hin
    simp only [List.getElem?_map, h1, Option.map_some] at h2
    cases hq : objs[j]? with
    | none => rw [hq] at h2; cases h2
    | some o =>
      rw [hq] at h2
      have h2 := Option.some.inj h2
      obtain ⟨⟨b, cs, T, fr, k1, _⟩, _⟩ := h.ob id _ h2
      have hp : (pullG g ρ ids.length).β j = some b := by
        show (if j < ids.length then g.β (ρ j) else none) = _
        rw [if_pos hlt, hρg j id hj]
        exact k1
      obtain ⟨q1, q2, q3⟩ := post.gext j b hp
      exact ⟨o, b, rfl, h2, k1, q1, by rw [q2]; show g.mm (ρ j) = _; rw [hρg j id hj], by rw [q3]; show g.o0 (ρ j) = _; rw [hρg j id hj]⟩
  have hB : ∀ j id, nm[j]? = some id → ¬ j < ids.length → σ.obj id = .never := fun j id hj hlt => by
    rw [← hnm, List.getElem?_append_right (by omega)] at hj
    exact hnew id (List.mem_of_getElem? hj)
  have hWr : ∀ b, HWr objs (pullG g ρ ids.length) b → ∃ id o, σ.obj id = .ob o ∧ o.fz = false ∧ g.β id = some b ∧ ∃ j, nm[j]? = some id ∧ j < ids.length := fun b ⟨j, o, hj, hz, hb⟩ => by
    have hlt : j < ids.length := by rw [hlen]; exact (List.getElem?_eq_some_iff.1 hj).1
    obtain ⟨id, hid⟩ : ∃ id, nm[j]? = some id := ⟨nm[j]'(by omega), List.getElem?_eq_getElem _⟩
    obtain ⟨o2, b2, q1, q2, q3, _⟩ := hA j id hid hlt
    rw [hj] at q1
    obtain rfl := Option.some.inj q1
    have hb : (if j < ids.length then g.β (ρ j) else none) = some b := hb
    rw [if_pos hlt, hρg j id hid] at hb
    exact ⟨id, _, q2, hz, hb, j, hid, hlt⟩
  have hFW : ∀ b, g.F b → ¬ HWr objs (pullG g ρ ids.length) b := fun b hF hW => by
    obtain ⟨id, o, q1, q2, q3, _⟩ := hWr b hW
    obtain ⟨⟨b2, cs, T, fr, k1, k2, k3, k4, k5, k6⟩, k7⟩ := h.ob id o q1
    rw [q3] at k1
    obtain rfl := Option.some.inj k1
    exact k6 q2 hF
  have hext : Ext g.F w.heap w'.heap := ⟨fun b cs T fr hb => by
    by_cases hF : g.F b
    · refine ⟨cs, fr, ?_, rfl, fun _ => rfl⟩
      rw [post.base b (Array.getElem?_eq_some_iff.1 hb).1 (hFW b hF)]
      exact hb
    · obtain ⟨cs', fr', h1, h2⟩ := post.kept b cs T fr hb
      exact ⟨cs', fr', h1, h2, fun h => (hF h).elim⟩⟩
  have hβ0 : ∀ id b, g.β id = some b → ∀ j, nm.idxOf? id = some j → j < ids.length := fun id b hb j hj => by
    rcases Nat.lt_or_ge j ids.length with h' | h'
    · exact h'
    · have := h.never id (hB j id (get_idx hj) (by omega))
      rw [this] at hb
      cases hb
  have hg : GExt g (afterG g gc nm ids.length) := ⟨fun id b hb => by
    obtain ⟨h1, h2, h3⟩ := afterG_old (g := g) (gc := gc) (hβ0 id b hb)
    exact ⟨by rw [h1, hb], h3, h2⟩, post.F0⟩
  have hpush : Push gc (afterG g gc nm ids.length) ρ nm.length := ⟨fun j b hj hb => by
    obtain ⟨id, hid⟩ : ∃ id, nm[j]? = some id := ⟨nm[j], List.getElem?_eq_getElem hj⟩
    rw [hρg j id hid]
    by_cases hlt : j < ids.length
    · obtain ⟨h1, h2, h3⟩ := afterG_old (g := g) (gc := gc) (n := ids.length) (nm := nm) (i := id) (fun j' hj' => by rw [idx_get hn hid] at hj'; cases hj'; exact hlt)
      obtain ⟨o, b2, q1, q2, q3, q4, q5, q6⟩ := hA j id hid hlt
      rw [q4] at hb
      obtain rfl := Option.some.inj hb
      exact ⟨by rw [h1, q3], by rw [h3, q5], by rw [h2, q6]⟩
    · obtain ⟨h1, h2, h3⟩ := afterG_new (g := g) (gc := gc) (n := ids.length) (idx_get hn hid) hlt
      exact ⟨by rw [h1, hb], h3, h2⟩, fun _ h => h⟩
  refine ⟨afterG g gc nm ids.length, hg, hext, hpush, ?_⟩
  have hobj : ∀ id, (∃ (j : Nat) (x : OS), nm[j]? = some id ∧ objs'[j]? = some x ∧ (σ.upds (zipH ρ nm objs')).obj id = x.ren ρ) ∨ (nm.idxOf? id = none ∧ (σ.upds (zipH ρ nm objs')).obj id = σ.obj id) := fun id => by
    rw [zipH_obj ρ nm objs' σ id hn hl.symm]
    cases hq : nm.idxOf? id with
    | none => exact .inr ⟨rfl, rfl⟩
    | some j =>
      have hj := get_idx hq
      have hlt : j < objs'.length := by rw [hl]; exact (List.getElem?_eq_some_iff.1 hj).1
      exact .inl ⟨j, objs'[j], hj, List.getElem?_eq_getElem hlt, by simp [List.getElem?_eq_getElem hlt]⟩
  have hobjb : ∀ id o, (σ.upds (zipH ρ nm objs')).obj id = .ob o → (∃ (j : Nat) (p : Ob), nm[j]? = some id ∧ objs'[j]? = some (OS.ob p) ∧ o = p.ren ρ) ∨ (nm.idxOf? id = none ∧ σ.obj id = .ob o) := fun id o ho => by
    rcases hobj id with ⟨j, x, h1, h2, h3⟩ | ⟨h1, h2⟩
    · rw [h3] at ho
      cases x with
      | never => cases ho
      | dead => cases ho
      | ob p => exact .inl ⟨j, p, h1, h2, (OS.ob.inj ho).symm⟩
    · exact .inr ⟨h1, by rw [← h2]; exact ho⟩
  have hout : ∀ id o b, nm.idxOf? id = none → σ.obj id = .ob o → g.β id = some b → ¬ HWr objs (pullG g ρ ids.length) b := fun id o b hid ho hb hW => by
    obtain ⟨id2, o2, q1, q2, q3, j, q4, _⟩ := hWr b hW
    cases hz : o.fz with
    | false =>
      have := h.inj id id2 o o2 b ho q1 hz q2 hb q3
      subst this
      rw [idx_get hn q4] at hid
      cases hid
    | true =>
      obtain ⟨⟨b2, cs, T, fr, k1, k2, k3, k4, k5, k6⟩, k7⟩ := h.ob id o ho
      rw [hb] at k1
      obtain rfl := Option.some.inj k1
      exact hFW b (k5 hz) hW
  have hinL : ∀ j id, nm[j]? = some id → ∀ b, (afterG g gc nm ids.length).β id = some b → gc.β j = some b := fun j id hid b hb => by
    by_cases hlt : j < ids.length
    · obtain ⟨h1, h2, h3⟩ := afterG_old (g := g) (gc := gc) (n := ids.length) (nm := nm) (i := id) (fun j' hj' => by rw [idx_get hn hid] at hj'; cases hj'; exact hlt)
      obtain ⟨o, b2, q1, q2, q3, q4, q5, q6⟩ := hA j id hid hlt
      rw [h1, q3] at hb
      rw [q4, hb]
    · obtain ⟨h1, h2, h3⟩ := afterG_new (g := g) (gc := gc) (n := ids.length) (idx_get hn hid) hlt
      rw [← h1, hb]
  have hold : ∀ id, nm.idxOf? id = none → (afterG g gc nm ids.length).β id = g.β id := fun id hid => (afterG_old (g := g) (gc := gc) (fun j hj => by rw [hid] at hj; cases hj)).1
  refine { slot := fun t => ?_, size := h.size, defers := h.defers, never := ?_, ob := ?_, inj := ?_, own := ?_, base := ?_, hsize := Nat.le_trans h.hsize post.hsize, F0 := fun b hF => post.F0 b (h.F0 b hF), Fold := ?_, Flt := post.Flt, os := by rw [post.os]; exact h.os, tape := by rw [post.tape]; exact h.tape, output := by rw [post.output]; exact h.output, gext := h.gx hg, kept := h.kx hext, tb := h.tb.ext post.F0 hext }
  · rw [zipH_slot]
    exact (h.slot t).ext hg hext
  · intro id hid
    rcases hobj id with ⟨j, x, h1, h2, h3⟩ | ⟨h1, h2⟩
    · have hx := List.all_eq_true.1 hok x (List.mem_of_getElem? h2)
      rw [h3] at hid
      cases x with
      | never => cases hx
      | dead => cases hid
      | ob p => cases hid
    · rw [h2] at hid
      rw [hold id h1]
      exact h.never id hid
  · intro id o ho
    rcases hobjb id o ho with ⟨j, p, h1, h2, rfl⟩ | ⟨h1, h2⟩
    · have hx : ltR nm.length p.rows = true := List.all_eq_true.1 hok _ (List.mem_of_getElem? h2)
      obtain ⟨⟨b, cs, T, fr, k1, k2, k3, k4, k5, k6⟩, k7⟩ := post.ob j p h2
      obtain ⟨q1, q2, q3⟩ := hpush.β j b (List.getElem?_eq_some_iff.1 h1).1 k1
      rw [hρg j id h1] at q1 q2 q3
      exact ⟨⟨b, cs, T, fr, q1, by rw [q2, q3]; show InH _ _ _ _ _ (renR ρ p.rows).length _ _ _; rw [renR_length]; exact k2, by rw [q3]; exact k3.push hpush hx, k4, k5, k6⟩, trivial⟩
    · obtain ⟨⟨b, cs, T, fr, k1, k2, k3, k4, k5, k6⟩, k7⟩ := h.ob id o h2
      obtain ⟨e1, e2, e3⟩ := hg.β id b k1
      have hnW := hout id o b h1 h2 k1
      have hlt := k2.lt
      refine ⟨⟨b, cs, T, fr, e1, by rw [e2, e3]; exact k2.of_eq (post.base b hlt hnW), by rw [e3]; exact k3.ext hg hext, k4, fun e => post.F0 b (k5 e), fun e hF => ?_⟩, trivial⟩
      rcases post.Fold b hF hlt with h' | h'
      · exact k6 e h'
      · exact hnW h'
  · intro i j o o' b ho ho' hz hz' hb hb'
    rcases hobjb i o ho with ⟨k, p, h1, h2, rfl⟩ | ⟨h1, h2⟩ <;> rcases hobjb j o' ho' with ⟨k', p', h1', h2', rfl⟩ | ⟨h1', h2'⟩
    · have := post.inj k k' p p' b h2 h2' hz hz' (hinL k i h1 b hb) (hinL k' j h1' b hb')
      subst this
      rw [h1] at h1'
      exact Option.some.inj h1'
    · exfalso
      rw [hold j h1'] at hb'
      obtain ⟨⟨b2, cs, T, fr, k1, k2, _⟩, _⟩ := h.ob j o' h2'
      rw [hb'] at k1
      obtain rfl := Option.some.inj k1
      rcases post.own k p b h2 hz (hinL k i h1 b hb) with h' | h'
      · have := k2.lt
        omega
      · exact hout j o' b h1' h2' hb' h'
    · exfalso
      rw [hold i h1] at hb
      obtain ⟨⟨b2, cs, T, fr, k1, k2, _⟩, _⟩ := h.ob i o h2
      rw [hb] at k1
      obtain rfl := Option.some.inj k1
      rcases post.own k' p' b h2' hz' (hinL k' j h1' b hb') with h' | h'
      · have := k2.lt
        omega
      · exact hout i o b h1 h2 hb h'
    · rw [hold i h1] at hb
      rw [hold j h1'] at hb'
      exact h.inj i j o o' b h2 h2' hz hz' hb hb'
  · intro id o b ho hz hb
    rcases hobjb id o ho with ⟨k, p, h1, h2, rfl⟩ | ⟨h1, h2⟩
    · rcases post.own k p b h2 hz (hinL k id h1 b hb) with h' | h'
      · exact .inl (Nat.le_trans h.hsize h')
      · obtain ⟨id2, o2, q1, q2, q3, _⟩ := hWr b h'
        exact h.own id2 o2 b q1 q2 q3
    · rw [hold id h1] at hb
      exact h.own id o b h2 hz hb
  · intro b hlt hW
    have hnW : ¬ HWr objs (pullG g ρ ids.length) b := fun h' => by
      obtain ⟨id2, o2, q1, q2, q3, _⟩ := hWr b h'
      rcases h.own id2 o2 b q1 q2 q3 with h' | h'
      · omega
      · exact hW h'
    rw [post.base b (Nat.lt_of_lt_of_le hlt h.hsize) hnW]
    exact h.base b hlt hW
  · intro b hF hlt
    rcases post.Fold b hF (Nat.lt_of_lt_of_le hlt h.hsize) with h' | h'
    · exact h.Fold b h' hlt
    · obtain ⟨id2, o2, q1, q2, q3, _⟩ := hWr b h'
      rcases h.own id2 o2 b q1 q2 q3 with h' | h'
      · omega
      · exact .inr h'
theorem upds_append : ∀ (l m : List (Nat × OS)) (s : St), s.upds (l ++ m) = (s.upds l).upds m
  | [], m, s => rfl
  | (i, x) :: l, m, s => upds_append l m (s.upd i x)
theorem step_hcall {P : Program} {o : Oper} {s : St} {fid : FuncId} {fn : Func} {xs : Array Operand} {ts : Array TypeId} (ho : o.op = .call { callee := .value (.func fid), args := xs, argTypes := ts }) (hf : P.funcs[fid]? = some fn) (hname : (fn.name == "runtime.NumGoroutine") = false) (hb : fn.body.isSome = true)
    (fzs : List (Nat × Ob)) (hfz : ∀ x ∈ fzs, s.obj x.1 = .ob x.2) (hnd : (fzs.map (·.1)).Nodup) (ids new : List Nat) (hn : (ids ++ new).Nodup) {objs : List Ob} {objs' : List OS} {args : List SV} {res : SV} {L : List Loc}
    (hin : ids.map (s.upds (frz fzs)).obj = objs.map fun o => .ob (o.ren (nameH (ids ++ new)))) (hnew : ∀ i ∈ new, (s.upds (frz fzs)).obj i = .never) (hlt : (objs.all fun o => ltR ids.length o.rows) = true)
    (hl : objs'.length = (ids ++ new).length) (hok : objs'.all (OS.okH (ids ++ new).length) = true) (hres : res.lt (ids ++ new).length = true)
    (hargs : SolHL (nameH (ids ++ new)) ids.length (s.upds (frz fzs)) (xs.toList.map s.ev) args L) (hc : HCall P fid objs args objs' res) :
    Step P o (locs xs.toList ++ objLocs fzs ++ L ++ (ids ++ new).map .obj) ⟨o.dst, res.ren (nameH (ids ++ new)), frz fzs ++ zipH (nameH (ids ++ new)) (ids ++ new) objs'⟩ s := by
  intro f σ a w K Q hA hd ⟨g, hR⟩ hK
  have hobj : ∀ x ∈ fzs, σ.obj x.1 = .ob x.2 := fun x hx => by
    rw [hA.left.left.right.2 x.1 (List.mem_map.2 ⟨x, hx, rfl⟩)]
    exact hfz x hx
  obtain ⟨g1, hg1, hR1⟩ := hR.freezes fzs hobj hnd
  have hA1 : Agree (L ++ (ids ++ new).map .obj) (s.upds (frz fzs)) (σ.upds (frz fzs)) := by
    refine ⟨fun t ht => ?_, fun i hi => ?_⟩
    · rw [upds_slot, upds_slot]
      rcases List.mem_append.1 ht with ht | ht
      · exact hA.left.right.1 t ht
      · obtain ⟨_, _, h⟩ := List.mem_map.1 ht
        cases h
    · rw [upds_obj, upds_obj]
      rcases List.mem_append.1 hi with hi | hi
      · rw [hA.left.right.2 i hi]
      · rw [hA.right.2 i hi]
  have hrep := repL_ev hR xs.toList
  rw [map_ev_agree hA.left.left.left] at hrep
  have hrep1 := hargs.rep hA1.left hR1 (hrep.ext hg1 (Ext.refl _ _))
  have hob1 : ∀ i ∈ ids ++ new, (σ.upds (frz fzs)).obj i = (s.upds (frz fzs)).obj i := fun i hi => hA1.right.2 i (List.mem_map.2 ⟨i, hi, rfl⟩)
  have hin1 : ids.map (σ.upds (frz fzs)).obj = objs.map fun o => .ob (o.ren (nameH (ids ++ new))) := by
    rw [← hin]
    exact List.map_congr_left fun i hi => hob1 i (List.mem_append_left _ hi)
  have hnew1 : ∀ i ∈ new, (σ.upds (frz fzs)).obj i = .never := fun i hi => by rw [hob1 i (List.mem_append_right _ hi)]; exact hnew i hi
  have hlen : ids.length = objs.length := by have := congrArg List.length hin; simpa using this
  have hget : ∀ i o, objs[i]? = some o → ∃ id, (ids ++ new)[i]? = some id ∧ (σ.upds (frz fzs)).obj id = .ob (o.ren (nameH (ids ++ new))) ∧ i < ids.length := fun i o hi => by
    have hi' := (List.getElem?_eq_some_iff.1 hi).1
    obtain ⟨id, hid⟩ : ∃ id, ids[i]? = some id := ⟨ids[i]'(by omega), List.getElem?_eq_getElem _⟩
    refine ⟨id, by rw [List.getElem?_append_left (by omega)]; exact hid, ?_, by omega⟩
    have h2 := congrArg (fun l => l[i]?) hin1
    simp only [List.getElem?_map, hid, hi, Option.map_some] at h2
    exact Option.some.inj h2
  have hpre : HPre objs (pullG g1 (nameH (ids ++ new)) ids.length) w := by
    refine ⟨hR1.tb, hR1.Flt, fun i o hi => ?_, fun i hi => ?_, fun i j o o' b hi hj hz hz' hb hb' => ?_⟩
    · obtain ⟨id, h1, h2, h3⟩ := hget i o hi
      obtain ⟨⟨b, cs, T, fr, k1, k2, k3, k4, k5, k6⟩, k7⟩ := hR1.ob id _ h2
      have e := nameH_get h1
      refine ⟨⟨b, cs, T, fr, ?_, ?_, ?_, k4, k5, k6⟩, trivial⟩
      · show (if i < ids.length then g1.β (nameH (ids ++ new) i) else none) = _
        rw [if_pos h3, e]
        exact k1
      · show InH _ _ (g1.mm (nameH (ids ++ new) i)) (g1.o0 (nameH (ids ++ new) i)) _ _ _ _ _
        rw [e]
        have k2 : InH _ _ _ _ _ (renR (nameH (ids ++ new)) o.rows).length _ _ _ := k2
        rw [renR_length] at k2
        exact k2
      · show RepR _ _ (cs.toList.drop (g1.o0 (nameH (ids ++ new) i))) _ _
        rw [e]
        exact RepR.pull (pull_pullG g1 (nameH (ids ++ new)) ids.length) k3 (List.all_eq_true.1 hlt o (List.mem_of_getElem? hi))
    · show (if i < ids.length then _ else none) = none
      rw [if_neg (by omega)]
    · obtain ⟨id, h1, h2, h3⟩ := hget i o hi
      obtain ⟨id', h1', h2', h3'⟩ := hget j o' hj
      have hb : (if i < ids.length then g1.β (nameH (ids ++ new) i) else none) = some b := hb
      have hb' : (if j < ids.length then g1.β (nameH (ids ++ new) j) else none) = some b := hb'
      rw [if_pos h3, nameH_get h1] at hb
      rw [if_pos h3', nameH_get h1'] at hb'
      have := hR1.inj id id' _ _ b h2 h2' hz hz' hb hb'
      subst this
      have e1 := idx_get hn h1
      rw [idx_get hn h1'] at e1
      exact (Option.some.inj e1).symm
  have hcall := hc _ w _ hpre hrep1
  unfold Oper.wp
  rw [run_call ho hf hname hb, Oper.upon_enter]
  have harr : (xs.map a.eval) = (xs.toList.map a.eval).toArray := by
    apply Array.ext'
    simp
  rw [harr]
  refine hcall.mono fun e w' he => ?_
  obtain ⟨v, gc, rfl, hv, post⟩ := he
  obtain ⟨g2, hg2, hext2, hpush, hR2⟩ := hR1.afterH hn hin1 hnew1 hl hok post
  refine hK _ _ ⟨g2, ?_⟩
  have hput := Rel.put hR2 o.dst hd (hv.push hpush hres)
  unfold St.app
  rw [upds_append]
  exact hput
end Go.Proofs.YtmcflglkfgnbbaaDoor.Eng

/- More operations. -/
namespace Go.Proofs.YtmcflglkfgnbbaaDoor.Eng
open Go Go.RowKit
set_option linter.unusedVariables false
set_option linter.unusedSimpArgs false
section
variable {P : Program} {tt : Nat → Option TI} {o : Oper} {s : St}
theorem TIok.pt {T : TypeId} {t : TI} (h : TIok P T t) (hp : t.ptr = true) : P.underlying T = some (.pointer (P.pointee T)) := by
  obtain ⟨d, i, z, h1, h2, h3, h4, h5, h6, h7, h8, h9, h10, h11, h12, h13⟩ := h
  rw [h1, h12 hp]
theorem TIok.bl {T : TypeId} {t : TI} (h : TIok P T t) (hp : t.bool = true) : P.underlying T = some .bool := by
  obtain ⟨d, i, z, h1, h2, h3, h4, h5, h6, h7, h8, h9, h10, h11, h12, h13⟩ := h
  rw [h1, h11 hp]
theorem eqGuard_ptr {op : BinOp} {T : TypeId} {x y : Operand} {p q : Option Addr} (w : World) : (eqGuard op T x y (.pointer p) (.pointer q)).run P w = .ok () w := by
  unfold eqGuard; cases op <;> simp
/-- A pointer compared with none. -/
theorem w_ptr_nil (ht : Tab P tt) {b : Bool} {T T2 : TypeId} {x y : Operand} (ho : o.op = .binOp (if b then .eql else .neq) T x y T2) {t : TI} (h1 : tt T = some t) (h2 : t.ptr = true) {id i j : Nat} (hx : s.ev x = .ref id i j) (hy : s.ev y = .v (.pointer none)) : Step P o (locO x ++ locO y) ⟨o.dst, .v (.bool !b), []⟩ s :=
  step_value fun g σ f ac w hA hR => by
    have e1 := hR.ev x
    rw [ev_agree hA.left, hx] at e1
    have e2 := ev_v hR hA.right hy
    obtain ⟨bb, hb, he⟩ := rep_ref e1
    refine ⟨.bool !b, ?_, .v _⟩
    have hp := run_equal_pointer_nil (P := P) (w := w) T (some ⟨bb, g.o0 id + (i * g.mm id + j), none⟩) ((ht T t h1).pt h2)
    cases b <;> simp [execOp, ho, e2, he, Sem.run_bind, eqGuard_ptr, binOp, hp]
theorem w_nil_nil (ht : Tab P tt) {b : Bool} {T T2 : TypeId} {x y : Operand} (ho : o.op = .binOp (if b then .eql else .neq) T x y T2) {t : TI} (h1 : tt T = some t) (h2 : t.ptr = true) (hx : s.ev x = .v (.pointer none)) (hy : s.ev y = .v (.pointer none)) : Step P o (locO x ++ locO y) ⟨o.dst, .v (.bool b), []⟩ s :=
  step_value fun g σ f ac w hA hR => by
    have e1 := ev_v hR hA.left hx
    have e2 := ev_v hR hA.right hy
    refine ⟨.bool b, ?_, .v _⟩
    have hp := run_equal_pointer_nil (P := P) (w := w) T none ((ht T t h1).pt h2)
    cases b <;> simp [execOp, ho, e1, e2, Sem.run_bind, eqGuard_ptr, binOp, hp]
theorem eqGuard_bool {op : BinOp} {T : TypeId} {x y : Operand} {p q : Bool} (w : World) : (eqGuard op T x y (.bool p) (.bool q)).run P w = .ok () w := by
  unfold eqGuard; cases op <;> simp
theorem run_equalIn_bool (d : Nat) (T : TypeId) (h : P.underlying T = some .bool) (p q : Bool) (w : World) : (Op.equalIn (d + 1) T (.bool p) (.bool q)).run P w = .ok (p == q) w := by
  simp [Op.equalIn, run_underlying h]
theorem w_bool (ht : Tab P tt) {b : Bool} {T T2 : TypeId} {x y : Operand} (ho : o.op = .binOp (if b then .eql else .neq) T x y T2) {t : TI} (h1 : tt T = some t) (h2 : t.bool = true) {p q : Bool} (hx : s.ev x = .v (.bool p)) (hy : s.ev y = .v (.bool q)) : Step P o (locO x ++ locO y) ⟨o.dst, .v (.bool (if b then p == q else !(p == q))), []⟩ s :=
  step_value fun g σ f ac w hA hR => by
    have e1 := ev_v hR hA.left hx
    have e2 := ev_v hR hA.right hy
    refine ⟨_, ?_, .v _⟩
    have hp : (Op.equal T (.bool p) (.bool q)).run P w = .ok (p == q) w := run_equalIn_bool 9999 T ((ht T t h1).bl h2) p q w
    cases b <;> simp [execOp, ho, e1, e2, Sem.run_bind, eqGuard_bool, binOp, hp]
theorem w_max {x y : Operand} {ts : Array TypeId} (ho : o.op = .call { callee := .builtin .max, args := #[x, y], argTypes := ts }) {k : IntKind} {a b : Int} (hx : s.ev x = .v (.int k a)) (hy : s.ev y = .v (.int k b)) {c : Int} (hc : (if a < b then b else a) = c) : Step P o (locO x ++ locO y) ⟨o.dst, .v (.int k c), []⟩ s :=
  step_value fun g σ f ac w hA hR => by
    subst hc
    have e1 := ev_v hR hA.left hx
    have e2 := ev_v hR hA.right hy
    refine ⟨.int k (if a < b then b else a), ?_, .v _⟩
    rw [execOp_builtin ho]
    by_cases hlt : a < b <;> simp [builtin, Builtin.max_, Builtin.max2, e1, e2, hlt]
theorem w_min {x y : Operand} {ts : Array TypeId} (ho : o.op = .call { callee := .builtin .min, args := #[x, y], argTypes := ts }) {k : IntKind} {a b : Int} (hx : s.ev x = .v (.int k a)) (hy : s.ev y = .v (.int k b)) {c : Int} (hc : (if b < a then b else a) = c) : Step P o (locO x ++ locO y) ⟨o.dst, .v (.int k c), []⟩ s :=
  step_value fun g σ f ac w hA hR => by
    subst hc
    have e1 := ev_v hR hA.left hx
    have e2 := ev_v hR hA.right hy
    refine ⟨.int k (if b < a then b else a), ?_, .v _⟩
    rw [execOp_builtin ho]
    by_cases hlt : b < a <;> simp [builtin, Builtin.min_, Builtin.min2, e1, e2, hlt]
theorem w_makeSlice (ht : Tab P tt) {T e : TypeId} {x y : Operand} (ho : o.op = .makeSlice T x y) {t : TI} (h1 : tt T = some t) (h2 : t.elem = some e) {u : TI} (h3 : tt e = some u) (id : Nat) {k : IntKind} {n : Int}
    (hx : s.ev x = .v (.int k n)) (hy : s.ev y = .v (.int k n)) (h0 : 0 ≤ n) (hb : (u.bytes : Int) * n ≤ 281474976710656) (h63 : n ≤ 9223372036854775807) (hm0 : 0 < u.size) (hid : s.obj id = .never) {q : Nat} (hq : n.toNat = q) :
    Step P o (locO x ++ locO y ++ [.obj id]) ⟨o.dst, .own id 0 q, [(id, .ob ⟨u.size, List.replicate q u.zero, false⟩)]⟩ s := by
  subst hq
  have hsl := (ht T t h1).sl h2
  obtain ⟨d, i, z, g1, g2, g3, g4, g5, g6, g7, g8, _⟩ := ht e u h3
  have := step_makeSlice (P := P) (s := s) ho hsl g2 g3 hx hy h0 (by rw [g6]; exact hb) h63 (by rw [g8, g5]) g5 hm0 hid
  rwa [g7] at this

/-! ### A struct of parts -/
def afill (places : List (Nat × Nat)) (cells : List SV) : List (Nat × List SV) → Option (List SV)
  | [] => some cells
  | (i, cs) :: rest => match places[i]? with
    | none => none
    | some (off, size) => if cs.length = size ∧ off + cs.length ≤ cells.length then afill places (owr cells off cs) rest else none
theorem foldl_owr : ∀ (vs : List Value) (k off : Nat) (cells : Array Value), ((vs.zipIdx k).foldl (fun cs (p : Value × Nat) => cs.setIfInBounds (off + p.2) p.1) cells).toList = owr cells.toList (off + k) vs
  | [], k, off, cells => rfl
  | v :: vs, k, off, cells => by
    rw [List.zipIdx_cons, List.foldl_cons, foldl_owr vs (k + 1) off, owr]
    simp [Nat.add_assoc]
theorem fill_rep {g : Gh} {H : Array Go.Obj} {places : List (Nat × Nat)} : ∀ (parts : List (Nat × Value)) (ps : List (Nat × List SV)) (cells : Array Value) (ss out : List SV), parts.map (·.1) = ps.map (·.1) →
    (∀ (k : Nat) (p : Nat × Value) (q : Nat × List SV), parts[k]? = some p → ps[k]? = some q → RepL g H p.2.cells.toList q.2) → RepL g H cells.toList ss → afill places ss ps = some out →
    ∃ cells', Instr.fill (places[·]?) cells parts = some cells' ∧ RepL g H cells'.toList out
  | [], [], cells, ss, out, _, _, hs, hf => by
    cases hf
    exact ⟨cells, rfl, hs⟩
  | (i, v) :: parts, (i', cs) :: ps, cells, ss, out, hm, hp, hs, hf => by
    simp only [List.map_cons, List.cons.injEq] at hm
    obtain ⟨rfl, hm⟩ := hm
    have h0 := hp 0 (i, v) (i, cs) rfl rfl
    unfold afill at hf
    unfold Instr.fill
    cases hq : places[i]? with
    | none => rw [hq] at hf; cases hf
    | some p =>
      obtain ⟨off, size⟩ := p
      rw [hq] at hf
      dsimp only at hf ⊢
      split at hf
      case isFalse => cases hf
      case isTrue hc =>
        have hlen := h0.length
        have hls := hs.length
        simp only [Array.length_toList] at hlen hls
        have e1 : v.cells.size = size := by rw [← hc.1]; simpa using hlen
        have e2 : off + v.cells.size ≤ cells.size := by rw [e1, ← hc.1]; omega
        rw [if_neg (by simp [e1]; omega)]
        refine fill_rep parts ps _ (owr ss off cs) out hm (fun k p q h1 h2 => hp (k + 1) p q (by simpa using h1) (by simpa using h2)) ?_ hf
        rw [← Array.foldl_toList]
        have := foldl_owr v.cells.toList 0 off cells
        simp only [Array.toList_zipIdx] at this ⊢
        rw [this]
        exact RepL.owr h0 hs off
  | [], _ :: _, _, _, _, hm, _, _, _ => by cases hm
  | _ :: _, [], _, _, _, hm, _, _, _ => by cases hm
def places (tt : Nat → Option TI) (t : TI) : Option (List (Nat × Nat)) := t.flds.mapM fun p => (tt p.2).map fun u => (p.1, u.size)
theorem places_ok (ht : Tab P tt) : ∀ (fs : List Field) (fl : List (Nat × Nat)) (pl : List (Nat × Nat)), fs.map (fun f => (f.offset, f.type)) = fl → fl.mapM (fun p => (tt p.2).map fun u => (p.1, u.size)) = some pl → fs.mapM (fun f => (P.info? f.type).map fun i => (f.offset, i.size)) = some pl
  | [], _, pl, rfl, h => h
  | f :: fs, _, pl, rfl, h => by
    simp only [List.map_cons, List.mapM_cons, Option.bind_eq_bind, Option.pure_def] at h ⊢
    cases hq : tt f.type with
    | none => simp [hq] at h
    | some u =>
      have hs := (ht _ u hq).sz
      cases hi : P.info? f.type with
      | none => simp [hi] at hs
      | some i =>
        simp only [hi, Option.map_some, Option.some.injEq] at hs
        simp only [hq, Option.map_some, Option.bind_some] at h
        cases hr : (fs.map fun f => (f.offset, f.type)).mapM (fun p => (tt p.2).map fun u => (p.1, u.size)) with
        | none => simp [hr] at h
        | some rest =>
          have ih := places_ok ht fs _ rest rfl hr
          simp only [hr, Option.bind_some, Option.some.injEq] at h
          subst h
          simp [hi, ih, hs]
def evParts (s : St) (parts : Array (Nat × Operand)) : List (Nat × List SV) := parts.toList.map fun p => (p.1, (s.ev p.2).cells)
def locP (parts : Array (Nat × Operand)) : List Loc := locs (parts.toList.map (·.2))
theorem w_build (ht : Tab P tt) {T : TypeId} {parts : Array (Nat × Operand)} (ho : o.op = .build T parts) {t : TI} (h1 : tt T = some t) (h0 : t.flds ≠ []) {pl : List (Nat × Nat)} (h2 : places tt t = some pl) {out : List SV} (hf : afill pl t.zero (evParts s parts) = some out) :
    Step P o (locP parts) ⟨o.dst, .agg out, []⟩ s :=
  step_value fun g σ f ac w hA hR => by
    obtain ⟨d, i, z, g1, g2, g3, g4, g5, g6, g7, g8, g9, _⟩ := ht T t h1
    obtain ⟨fs, rfl, hfs⟩ := g9 h0
    have hpl := places_ok ht fs.toList t.flds pl hfs h2
    have hrep := repL_ev hR (parts.toList.map (·.2))
    rw [map_ev_agree hA] at hrep
    have hps : ∀ (k : Nat) (p : Nat × Value) (q : Nat × List SV), (parts.map fun (i, x) => (i, ac.eval x)).toList[k]? = some p → (evParts s parts)[k]? = some q → RepL g w.heap p.2.cells.toList q.2 := fun k p q hp hq => by
      simp only [Array.toList_map, List.getElem?_map] at hp
      simp only [evParts, List.getElem?_map] at hq
      cases hk : parts.toList[k]? with
      | none => rw [hk] at hp; cases hp
      | some x =>
        rw [hk] at hp hq
        cases hp
        cases hq
        obtain ⟨v, hv, hr⟩ := hrep.get k (s.ev x.2) (by simp only [List.getElem?_map, hk, Option.map_some])
        simp only [List.getElem?_map, hk, Option.map_some, Option.some.injEq] at hv
        rw [← hv] at hr
        exact hr.cells
    obtain ⟨cells', hc, hr⟩ := fill_rep (places := pl) (parts.map fun (i, x) => (i, ac.eval x)).toList (evParts s parts) z.cells t.zero out (by simp [evParts]) hps (by rw [← g7]; exact repL_v _) hf
    have hb : P.built T (parts.map fun (i, x) => (i, ac.eval x)).toList = some cells' := by
      unfold Program.built
      simp only [g1, g2, g3, hpl]
      rw [← hc]
      congr 1
      funext k
      simp
    refine ⟨.agg cells', ?_, .agg hr⟩
    simp only [execOp, ho, Sem.run_bind, run_build w T _ cells' hb, Result.andThen_ok]
    rfl
end
end Go.Proofs.YtmcflglkfgnbbaaDoor.Eng

/- Values, as arithmetic says them. -/
namespace Go.Proofs.YtmcflglkfgnbbaaDoor.Eng
open Go Go.RowKit
set_option linter.unusedVariables false
set_option linter.unusedSimpArgs false
section
variable {k : IntKind} {a b c : Int}
theorem lss_t (h : a < b) : abin .lss (.int k a) (.int k b) = some (.bool true) := by simp [abin, h]
theorem lss_f (h : ¬ a < b) : abin .lss (.int k a) (.int k b) = some (.bool false) := by simp [abin]; omega
theorem leq_t (h : a ≤ b) : abin .leq (.int k a) (.int k b) = some (.bool true) := by simp [abin, h]
theorem leq_f (h : ¬ a ≤ b) : abin .leq (.int k a) (.int k b) = some (.bool false) := by simp [abin]; omega
theorem gtr_t (h : a > b) : abin .gtr (.int k a) (.int k b) = some (.bool true) := by simp [abin]; omega
theorem gtr_f (h : ¬ a > b) : abin .gtr (.int k a) (.int k b) = some (.bool false) := by simp [abin]; omega
theorem geq_t (h : a ≥ b) : abin .geq (.int k a) (.int k b) = some (.bool true) := by simp [abin]; omega
theorem geq_f (h : ¬ a ≥ b) : abin .geq (.int k a) (.int k b) = some (.bool false) := by simp [abin]; omega
theorem eql_t (h : a = b) : abin .eql (.int k a) (.int k b) = some (.bool true) := by simp [abin, h]
theorem eql_f (h : ¬ a = b) : abin .eql (.int k a) (.int k b) = some (.bool false) := by simp [abin, h]
theorem neq_t (h : ¬ a = b) : abin .neq (.int k a) (.int k b) = some (.bool true) := by simp [abin, h]
theorem neq_f (h : a = b) : abin .neq (.int k a) (.int k b) = some (.bool false) := by simp [abin, h]
theorem wrap_i64 (h1 : -9223372036854775808 ≤ c) (h2 : c ≤ 9223372036854775807) : IntKind.wrap .i64 c = c := by
  simp [IntKind.wrap, IntKind.bits, IntKind.signed]
  omega
theorem wrap_u64 (h1 : 0 ≤ c) (h2 : c ≤ 18446744073709551615) : IntKind.wrap .u64 c = c := by
  simp [IntKind.wrap, IntKind.bits, IntKind.signed]
  omega
theorem add_i64 (h : a + b = c) (h1 : -9223372036854775808 ≤ c) (h2 : c ≤ 9223372036854775807) : abin .add (.int .i64 a) (.int .i64 b) = some (.int .i64 c) := by
  subst h; simp [abin, wrap_i64 h1 h2]
theorem sub_i64 (h : a - b = c) (h1 : -9223372036854775808 ≤ c) (h2 : c ≤ 9223372036854775807) : abin .sub (.int .i64 a) (.int .i64 b) = some (.int .i64 c) := by
  subst h; simp [abin, wrap_i64 h1 h2]
theorem mul_i64 (h : a * b = c) (h1 : -9223372036854775808 ≤ c) (h2 : c ≤ 9223372036854775807) : abin .mul (.int .i64 a) (.int .i64 b) = some (.int .i64 c) := by
  subst h; simp [abin, wrap_i64 h1 h2]
theorem quo_i64 (ha : 0 ≤ a) (hb : 0 < b) (h2 : a ≤ 9223372036854775807) (h : a / b = c) : abin .quo (.int .i64 a) (.int .i64 b) = some (.int .i64 c) := by
  subst h
  have h0 : 0 ≤ a / b := Int.ediv_nonneg ha (by omega)
  have h3 : a / b ≤ a := Int.ediv_le_self b ha
  simp only [abin, if_true]
  rw [if_neg (by omega), Int.tdiv_eq_ediv_of_nonneg ha, wrap_i64 (by omega) (by omega)]
theorem rem_i64 (ha : 0 ≤ a) (hb : 0 < b) (h : a % b = c) : abin .rem (.int .i64 a) (.int .i64 b) = some (.int .i64 c) := by
  subst h
  simp only [abin, if_true]
  rw [if_neg (by omega), Int.tmod_eq_emod_of_nonneg ha]
theorem shl_ok {k' : IntKind} (h : 0 ≤ b) : abin .shl (.int k a) (.int k' b) = some (.int k (k.wrap (a * 2 ^ (min b.toNat k.bits)))) := by
  simp only [abin]
  rw [if_neg (by omega)]
theorem shr_ok {k' : IntKind} (h : 0 ≤ b) : abin .shr (.int k a) (.int k' b) = some (.int k (a.fdiv (2 ^ (min b.toNat k.bits)))) := by
  simp only [abin]
  rw [if_neg (by omega)]
end
end Go.Proofs.YtmcflglkfgnbbaaDoor.Eng

/- Regions, operation by operation. -/
namespace Go.Proofs.YtmcflglkfgnbbaaDoor.Eng
open Go Go.RowKit
set_option linter.unusedVariables false
set_option linter.unusedSimpArgs false
inductive ChainL (P : Program) (ops : Array Oper) : List Oper → Nat → St → List (List Loc × Eff) → St → Prop where
  | nil {i : Nat} {s : St} : ChainL P ops [] i s [] s
  | cons {i : Nat} {o : Oper} {rest : List Oper} {s s' : St} {L : List Loc} {e : Eff} {l : List (List Loc × Eff)} (h : ops[i]? = some o → GStep P ops i L e s) (t : ChainL P ops rest (i + 1) (s.app e) l s') : ChainL P ops (o :: rest) i s ((L, e) :: l) s'
theorem ChainL.chain {P : Program} {ops : Array Oper} : ∀ {rest : List Oper} {i : Nat} {s s' : St} {l : List (List Loc × Eff)}, ChainL P ops rest i s l s' → ops.toList.drop i = rest → Chain P ops i s l s' ∧ l.length = rest.length
  | _, _, _, _, _, .nil, _ => ⟨.nil, rfl⟩
  | _, i, _, _, _, .cons (o := o) (rest := rest) h t, e => by
    have h0 : ops[i]? = some o := by
      have := congrArg (fun l => l[0]?) e
      simpa using this
    have h1 : ops.toList.drop (i + 1) = rest := by
      have := congrArg (fun l => l.drop 1) e
      simpa [List.drop_drop] using this
    obtain ⟨k1, k2⟩ := t.chain h1
    exact ⟨.cons (h h0) k1, by simp [k2]⟩
section
variable {P : Program} {ops : Array Oper} {o : Oper} {rest : List Oper} {i : Nat} {s s' : St} {L : List Loc} {v : SV} {ob : List (Nat × OS)} {l : List (List Loc × Eff)}
theorem ChainL.of (d : Option Nat) (hg : o.guard = none) (hd : o.dst = d) (h : Step P o L ⟨o.dst, v, ob⟩ s) (t : ChainL P ops rest (i + 1) (s.app ⟨d, v, ob⟩) l s') : ChainL P ops (o :: rest) i s ((L, ⟨d, v, ob⟩) :: l) s' := by
  subst hd
  exact .cons (fun hi => .of hi hg h) t
theorem ChainL.on (d : Option Nat) (j t0 : Nat) (b : Bool) (hg : o.guard = some (j, b)) (ht : (ops[j]?).bind (·.dst) = some t0) (hd : o.dst = d) (hs : s.slot t0 = .v (.bool b)) (h : Step P o L ⟨o.dst, v, ob⟩ s) (t : ChainL P ops rest (i + 1) (s.app ⟨d, v, ob⟩) l s') :
    ChainL P ops (o :: rest) i s ((.slot t0 :: L, ⟨d, v, ob⟩) :: l) s' := by
  subst hd
  exact .cons (fun hi => .guard hi hg ht hs h) t
theorem ChainL.off (d : Option Nat) (j t0 : Nat) (b : Bool) (hg : o.guard = some (j, b)) (ht : (ops[j]?).bind (·.dst) = some t0) (hd : o.dst = d) (hs : s.slot t0 = .v (.bool !b)) (t : ChainL P ops rest (i + 1) (s.app ⟨d, .v undef, []⟩) l s') :
    ChainL P ops (o :: rest) i s (([.slot t0], ⟨d, .v undef, []⟩) :: l) s' := by
  subst hd
  exact .cons (fun hi => .off hi hg ht hs (by simp)) t
variable {Q : Exit → St → Prop} {y : Code} {id : Nat}
theorem seq_region (hc : ChainL P ops ops.toList 0 s l s') (h : Cwp P y s' Q) : Cwp P (.seq (.region id ops false) y) s Q := by
  obtain ⟨k1, k2⟩ := hc.chain rfl
  exact cwp_seq (cwp_region k1 (by rw [k2]; simp) h)
theorem seq_region_draw (B : List Nat) (hm : P.follows .mixedOrders = true) (hc : ChainL P ops ops.toList 0 s l s') (hB : okTab ops B = true) (hI : indepOk B l = true) (h : Cwp P y s' Q) : Cwp P (.seq (.region id ops true) y) s Q := by
  obtain ⟨k1, k2⟩ := hc.chain rfl
  exact cwp_seq (cwp_region_draw B hm k1 (by rw [k2]; simp) hB hI h)
theorem one_region (hc : ChainL P ops ops.toList 0 s l s') (h : Q .normal s') : Cwp P (.region id ops false) s Q := by
  obtain ⟨k1, k2⟩ := hc.chain rfl
  exact cwp_region k1 (by rw [k2]; simp) h
theorem one_region_draw (B : List Nat) (hm : P.follows .mixedOrders = true) (hc : ChainL P ops ops.toList 0 s l s') (hB : okTab ops B = true) (hI : indepOk B l = true) (h : Q .normal s') : Cwp P (.region id ops true) s Q := by
  obtain ⟨k1, k2⟩ := hc.chain rfl
  exact cwp_region_draw B hm k1 (by rw [k2]; simp) hB hI h
theorem cond_t {c : Operand} {x y : Code} (hc : s.ev c = .v (.bool true)) (h : Cwp P x s Q) : Cwp P (.cond c x y) s Q := cwp_cond hc (fun _ => h) (fun e => by cases e)
theorem cond_f {c : Operand} {x y : Code} (hc : s.ev c = .v (.bool false)) (h : Cwp P y s Q) : Cwp P (.cond c x y) s Q := cwp_cond hc (fun e => by cases e) (fun _ => h)
/-- A way out of the code ahead of what comes. -/
theorem seq_cond_t {c : Operand} {x z y : Code} (hc : s.ev c = .v (.bool true)) (h : Cwp P x s (thenS (fun s' => Cwp P y s' Q) Q)) : Cwp P (.seq (.cond c x z) y) s Q := cwp_seq (cond_t hc h)
theorem seq_cond_f {c : Operand} {x z y : Code} (hc : s.ev c = .v (.bool false)) (h : Cwp P z s (thenS (fun s' => Cwp P y s' Q) Q)) : Cwp P (.seq (.cond c x z) y) s Q := cwp_seq (cond_f hc h)
theorem seq_cond_skip {c : Operand} {x y : Code} (hc : s.ev c = .v (.bool false)) (h : Cwp P y s Q) : Cwp P (.seq (.cond c x .skip) y) s Q := cwp_seq (cond_f hc (cwp_skip h))
theorem seq_skip {y : Code} (h : Cwp P y s Q) : Cwp P (.seq .skip y) s Q := cwp_seq (cwp_skip h)
theorem seq_ret {y : Code} (h : Q .ret s) : Cwp P (.seq .ret y) s Q := cwp_seq (cwp_ret h)
end
end Go.Proofs.YtmcflglkfgnbbaaDoor.Eng

/- Calls and tables, as walks use them. -/
namespace Go.Proofs.YtmcflglkfgnbbaaDoor.Eng
open Go Go.RowKit
set_option linter.unusedVariables false
set_option linter.unusedSimpArgs false
theorem objs_ok {objs' : List OS} {s : St} (h : (List.range objs'.length).map s.obj = objs') : ∀ i x, objs'[i]? = some x → s.obj i = x := fun i x hx => by
  have hlt := (List.getElem?_eq_some_iff.1 hx).1
  have := congrArg (fun l => l[i]?) h
  simp only [List.getElem?_map, List.getElem?_range hlt, Option.map_some, hx, Option.some.injEq] at this
  exact this
section
variable {P : Program} {tt : Nat → Option TI} {o : Oper} {s : St}
theorem SolHL.of_ren {ρ : Nat → Nat} {n : Nat} {s : St} : ∀ {l' : List SV}, ltL n l' = true → SolHL ρ n s (renL ρ l') l' []
  | [], _ => .nil
  | x :: l, h => by
    have h : (x.lt n && ltL n l) = true := h
    rw [Bool.and_eq_true] at h
    exact .cons (L := []) (M := []) (.ren rfl h.1) (SolHL.of_ren h.2)
theorem w_call {fid : FuncId} {objs : List Ob} {args : List SV} {objs' : List OS} {res : SV} (hc : HCall P fid objs args objs' res) (fzs : List (Nat × Ob)) (ids new : List Nat) {fn : Func} (hf : P.funcs[fid]? = some fn) {xs : Array Operand} {ts : Array TypeId}
    (ho : o.op = .call { callee := .value (.func fid), args := xs, argTypes := ts }) (hname : (fn.name == "runtime.NumGoroutine") = false) (hb : fn.body.isSome = true) (hfz : (fzs.map fun x => s.obj x.1) = fzs.map fun x => .ob x.2) (hnd : (fzs.map (·.1)).Nodup) (hn : (ids ++ new).Nodup)
    {cobs : List Ob} (hco : objs.map (Ob.ren (nameH (ids ++ new))) = cobs) (hin : ids.map (s.upds (frz fzs)).obj = cobs.map .ob) (hnew : new.map (s.upds (frz fzs)).obj = new.map fun _ => .never) (hlt : (objs.all fun o => ltR ids.length o.rows) = true)
    (hl : objs'.length = (ids ++ new).length) (hok : objs'.all (OS.okH (ids ++ new).length) = true) (hres : res.lt (ids ++ new).length = true) 
    (hargs : renL (nameH (ids ++ new)) args = xs.toList.map s.ev) (hal : ltL ids.length args = true) {res' : SV} (hr : res.ren (nameH (ids ++ new)) = res') {ob' : List (Nat × OS)} (ho' : frz fzs ++ zipH (nameH (ids ++ new)) (ids ++ new) objs' = ob') :
    Step P o (locs xs.toList ++ objLocs fzs ++ [] ++ (ids ++ new).map .obj) ⟨o.dst, res', ob'⟩ s := by
  subst hr ho' hco
  refine step_hcall ho hf hname hb fzs (fun x hx => ?_) hnd ids new hn (by rw [hin, List.map_map]; rfl) (fun i hi => ?_) hlt hl hok hres (by rw [← hargs]; exact SolHL.of_ren hal) hc
  · obtain ⟨k, hk⟩ := List.mem_iff_getElem?.1 hx
    have := congrArg (fun l => l[k]?) hfz
    simpa [List.getElem?_map, hk] using this
  · obtain ⟨k, hk⟩ := List.mem_iff_getElem?.1 hi
    have := congrArg (fun l => l[k]?) hnew
    simpa [List.getElem?_map, hk] using this
def aun : UnOp → Value → Option Value
  | .neg, .int k n => abin .sub (.int k 0) (.int k n)
  | .xor, .int k n => abin .xor (.int k (if k.signed then -1 else k.max)) (.int k n)
  | .not, .bool b => some (.bool !b)
  | _, _ => none
theorem aun_run {op : UnOp} {x v : Value} (h : aun op x = some v) (w : World) : (Op.unary op x).run P w = .ok v w := by
  cases op <;> cases x <;> first | (cases h; done) | skip
  all_goals simp only [aun, abin, if_true, Option.some.injEq] at h
  all_goals (subst h; simp [Op.unary, Op.intArith, Op.intBits])
theorem w_un {op : UnOp} {T : TypeId} {x : Operand} (ho : o.op = .unOp op T x) {a v : Value} (hx : s.ev x = .v a) (hv : aun op a = some v) : Step P o (locO x) ⟨o.dst, .v v, []⟩ s :=
  step_value fun g σ f ac w hA hR => by
    have e1 := ev_v hR hA hx
    refine ⟨v, ?_, .v _⟩
    simp only [execOp, ho, e1]
    simp [aun_run hv]
theorem TIok.it {T : TypeId} {t : TI} (h : TIok P T t) {k : IntKind} (hp : t.ik = some k) : P.underlying T = some (.int k) := by
  obtain ⟨d, i, z, h1, h2, h3, h4, h5, h6, h7, h8, h9, h10, h11, h12, h13⟩ := h
  rw [h1, h13 k hp]
theorem w_conv (ht : Tab P tt) {T1 T2 : TypeId} {x : Operand} (ho : o.op = .convert T1 T2 x) {t1 t2 : TI} (h1 : tt T1 = some t1) (h2 : tt T2 = some t2) {k k2 : IntKind} (h3 : t2.ik = some k2) {a b : Int} (hx : s.ev x = .v (.int k a)) (hw : k2.wrap a = b) : Step P o (locO x) ⟨o.dst, .v (.int k2 b), []⟩ s :=
  step_value fun g σ f ac w hA hR => by
    subst hw
    have e1 := ev_v hR hA hx
    obtain ⟨d, hu, _⟩ := (ht T1 t1 h1).und
    have hi := (ht T2 t2 h2).it h3
    refine ⟨.int k2 (k2.wrap a), ?_, .v _⟩
    have : (convert T1 T2 (.int k a)).run P w = .ok (.int k2 (k2.wrap a)) w := by simp [convert, run_underlying hu, run_underlying hi, Conv.intToInt]
    simp [execOp, ho, e1, this]
/-- A loop of at most so many rounds. -/
def LoopN (P : Program) (c : Code) (Q : Exit → St → Prop) : Nat → St → Prop
  | 0, _ => False
  | n + 1, s => Cwp P c s (thenS (fun s' => LoopN P c Q n s') Q)
theorem cwp_loopN {c : Code} {Q : Exit → St → Prop} (n : Nat) (h : LoopN P c Q n s) : Cwp P (.loop c) s Q :=
  cwp_loop (fun n s => LoopN P c Q n s) h fun n s hI => by
    cases n with
    | zero => exact hI.elim
    | succ n =>
      refine cwp_mono hI fun e s' h => ?_
      cases e with
      | normal => exact ⟨n, Nat.lt_succ_self n, h⟩
      | _ => exact h
theorem loop_round {c : Code} {Q : Exit → St → Prop} {n : Nat} (h : Cwp P c s (thenS (fun s' => LoopN P c Q n s') Q)) : LoopN P c Q (n + 1) s := h
/-! ### Tables -/
theorem tab_cell {f : Fr} {g : Gh} {σ : St} {a : Act} {w : World} (h : Rel f g σ a w) {b k : Nat} {cs : Array Value} (hb : (b, cs) ∈ tabs) {v : Value} (hk : cs[k]? = some v) : w.cell? ⟨b, k, none⟩ = some v := by
  obtain ⟨_, cs', T, fr, h, h2⟩ := h.tb (b, cs) hb
  simp [World.cell?, h, h2 k v hk]
theorem w_load_tab (ht : Tab P tt) {T : TypeId} {x : Operand} (ho : o.op = .load T x) {t : TI} (h1 : tt T = some t) (h2 : t.row = false) {b k : Nat} {cs : Array Value} (hx : s.ev x = .v (.pointer (some ⟨b, k, none⟩))) (hb : (b, cs) ∈ tabs) {v : Value} (hk : cs[k]? = some v) : Step P o (locO x) ⟨o.dst, .v v, []⟩ s :=
  step_value fun g σ f ac w hA hR => by
    have e1 := ev_v hR hA hx
    obtain ⟨d, hu, hd⟩ := (ht T t h1).und
    refine ⟨v, ?_, .v _⟩
    have hc : w.cell? ⟨b, k, none⟩ = some v := tab_cell hR hb hk
    have hd' : d.isRow = false := by rw [hd, h2]
    simp only [execOp, ho, e1, isRow_load hu hd' _ _ w hc]
    simp [Sem.run_bind, isRow_load hu hd' _ _ w hc]
/-- An element of a table. -/
theorem w_index_tab {T : TypeId} {n e : Nat} (hT : P.underlying T = some (.array n e)) (he : (P.info? e).map (·.size) = some 1) {x y : Operand} (ho : o.op = .indexAddr T x y) {b : Nat} {k : IntKind} {i : Int} (hx : s.ev x = .v (.pointer (some ⟨b, 0, none⟩))) (hy : s.ev y = .v (.int k i)) (h0 : 0 ≤ i) (h1 : i < n) {q : Nat} (hq : i.toNat = q) :
    Step P o (locO x ++ locO y) ⟨o.dst, .v (.pointer (some ⟨b, q, none⟩)), []⟩ s :=
  step_value fun g σ f ac w hA hR => by
    subst hq
    have e1 := ev_v hR hA.left hx
    have e2 := ev_v hR hA.right hy
    refine ⟨_, ?_, .v _⟩
    obtain ⟨ie, hie, hs⟩ := Option.map_eq_some_iff.1 he
    have hsz : ∀ w : World, (sizeOf e).run P w = .ok 1 w := fun w => by simp [sizeOf, typeInfo, hie, hs]
    have h2 : i < (n : Int) := h1
    by_cases hz : i ≤ 0
    · obtain rfl : i = 0 := by omega
      simp [execOp, ho, e1, e2, Instr.indexAt, asIntOf, run_underlying hT, Instr.sureAddr, hsz, h2, Addr.add]
      intro hn
      omega
    · simp [execOp, ho, e1, e2, Instr.indexAt, asIntOf, run_underlying hT, Instr.sureAddr, hsz, h0, h2, Addr.add, hz]
end
end Go.Proofs.YtmcflglkfgnbbaaDoor.Eng

/- Strings and literals of slices. -/
namespace Go.Proofs.YtmcflglkfgnbbaaDoor.Eng
open Go Go.RowKit
set_option linter.unusedVariables false
set_option linter.unusedSimpArgs false
section
variable {P : Program} {tt : Nat → Option TI} {o : Oper} {s : St}
theorem w_len_str {T : TypeId} (hT : P.underlying T = some .string) {x : Operand} (ho : o.op = .call { callee := .builtin .len, args := #[x], argTypes := #[T] }) {b : ByteArray} (hx : s.ev x = .v (.string b)) {n : Int} (hn : (b.size : Int) = n) : Step P o (locO x) ⟨o.dst, .v (.int .i64 n), []⟩ s :=
  step_value fun g σ f ac w hA hR => by
    subst hn
    have e1 := ev_v hR hA hx
    refine ⟨_, ?_, .v _⟩
    rw [execOp_builtin ho]
    simp [builtin, Builtin.len_, e1, run_underlying hT, goInt]
theorem w_index_str {T : TypeId} (hT : P.underlying T = some .string) {x y : Operand} (ho : o.op = .index T x y) {b : ByteArray} (hx : s.ev x = .v (.string b)) {k : IntKind} {i : Int} (hy : s.ev y = .v (.int k i)) (h0 : 0 ≤ i) {c : UInt8} (hc : b.data[i.toNat]? = some c) {n : Int} (hn : (c.toNat : Int) = n) : Step P o (locO x ++ locO y) ⟨o.dst, .v (.int .u8 n), []⟩ s :=
  step_value fun g σ f ac w hA hR => by
    subst hn
    have e1 := ev_v hR hA.left hx
    have e2 := ev_v hR hA.right hy
    refine ⟨_, ?_, .v _⟩
    obtain ⟨hlt, hv⟩ := Array.getElem?_eq_some_iff.1 hc
    have hsz : i.toNat < b.size := hlt
    have hr := run_index_string (P := P) (w := w) T b k i hT
    rw [dif_pos ⟨h0, by omega⟩] at hr
    simp only [execOp, ho, e1, e2]
    rw [Sem.run_bind, hr]
    subst hv
    rfl
theorem fill_one (size : Nat) (cells : Array Value) (v : Value) (h1 : v.cells.size = size) (h2 : cells.size = size) : Instr.fill (fun i => some (i * size, size)) cells [(0, v)] = some v.cells := by
  unfold Instr.fill
  dsimp only
  rw [if_neg (by simp [h1, h2])]
  unfold Instr.fill
  congr 1
  apply Array.ext'
  rw [← Array.foldl_toList]
  have := foldl_owr v.cells.toList 0 (0 * size) cells
  simp only [Array.toList_zipIdx] at this ⊢
  rw [this, owr_eq _ _ _ (by simp [h1, h2])]
  simp [h1, h2]
/-- A slice of one element. -/
theorem w_slice1 (ht : Tab P tt) {T e : TypeId} {x : Operand} (ho : o.op = .buildSlice T 1 #[(0, x)]) {t : TI} (h1 : tt T = some t) (h2 : t.elem = some e) {u : TI} (h3 : tt e = some u) (id : Nat) (hm0 : 0 < u.size) (hsm : u.size ≤ 16777216) (hid : s.obj id = .never) {cs : List SV} (hc : (s.ev x).cells = cs) (hl : cs.length = u.size) :
    Step P o (locO x ++ [.obj id]) ⟨o.dst, .own id 0 1, [(id, .ob ⟨u.size, [cs], false⟩)]⟩ s := by
  intro f σ a w K Q hA hd ⟨g, hR⟩ hK
  have hid' : σ.obj id = .never := by rw [agree_obj hA]; exact hid
  have hx := hR.ev x
  rw [ev_agree hA.left] at hx
  have hcells := hx.cells
  rw [hc] at hcells
  have hsl := (ht T t h1).sl h2
  obtain ⟨d, i, z, g1, g2, g3, g4, g5, g6, g7, g8, _⟩ := ht e u h3
  have hvs : (a.eval x).cells.size = i.size := by
    have := hcells.length
    rw [Array.length_toList] at this
    rw [this, hl, g5]
  have hrun : (execOp a.eval o).run P w = .ok (.value (.slice (some ⟨w.heap.size, 0, none⟩) 1 1)) (w.alloc (.cells (a.eval x).cells e)) := by
    have := run_buildSlice (P := P) w T e 1 #[(0, a.eval x)] (a.eval x).cells i z hsl g2 g3 (by rw [g5]; omega) (by rw [g5]; omega) (fill_one i.size _ (a.eval x) hvs (by simp))
    simp only [execOp, ho]
    rw [Sem.run_bind]
    simp only [List.map_toArray, List.map_cons, List.map_nil]
    rw [this]
    rfl
  unfold Oper.wp
  rw [hrun, Oper.upon_value]
  refine hK _ _ (new_step hd hR id hid' _ e u.size [cs] (RepR.row hcells hl) _ _ fun g' k1 k2 k3 => ?_)
  have hsz : (w.alloc (.cells (a.eval x).cells e)).heap[w.heap.size]? = some (Go.Obj.cells (a.eval x).cells e (0, 0)) := by
    show (w.heap.push _)[w.heap.size]? = _
    rw [Array.getElem?_push, if_pos rfl]
  have := Rep.own (g := g') (H := (w.alloc (.cells (a.eval x).cells e)).heap) (id := id) (lo := 0) (len := 1) (cap := 1) (fr := (0, 0)) k1 (Nat.le_refl _) hsz (by rw [k2, k3, hvs, g5]; omega)
  rw [k3] at this
  simpa using this
theorem repR_bytes {g : Gh} {H : Array Go.Obj} : ∀ (xs : List Int) (vs : List Value), RepR g H vs 1 (xs.map fun n => [SV.v (.int .u8 n)]) → vs.length = xs.length → vs = xs.map (Value.int .u8)
  | [], [], _, _ => rfl
  | [], _ :: _, _, h => by cases h
  | x :: xs, vs, h, hl => by
    rw [List.map_cons] at h
    cases h with
    | @cons a b _ _ _ hm hr ht =>
      cases hr with
      | cons h1 h2 =>
        cases h2
        obtain rfl := rep_v h1
        simp only [List.cons_append, List.nil_append, List.length_cons, Nat.add_right_cancel_iff] at hl ⊢
        rw [List.map_cons, repR_bytes xs b ht hl]
/-- Bytes as a string. -/
theorem w_str {T T2 e : TypeId} (hT : P.underlying T = some (.slice e)) (he : P.underlying e = some (.int .u8)) (h2 : P.underlying T2 = some .string) {x : Operand} (ho : o.op = .convert T T2 x) {rows : List (List SV)} {L : List Loc} {m : Nat} (hx : LstOf s (s.ev x) m rows L) (hm : m = 1) (xs : List Int) (hr : rows = xs.map fun n => [SV.v (.int .u8 n)]) (hpos : 0 < xs.length) {b : ByteArray} (hb : strOfNums xs = b) :
    Step P o (locO x ++ L) ⟨o.dst, .v (.string b), []⟩ s :=
  step_value fun g σ f ac w hA hR => by
    subst hb hm
    have h1 := hR.ev x
    rw [ev_agree hA.left] at h1
    obtain ⟨vs, ⟨A, c, he', hcell⟩, hlen, hrep⟩ := LstOf.at hR (hx.agree hA.right) h1
    have hrl : rows.length = xs.length := by rw [hr, List.length_map]
    rw [hr] at hrep
    obtain rfl := repR_bytes xs vs hrep (by rw [hlen, hrl]; omega)
    refine ⟨.string (strOfNums xs), ?_, .v _⟩
    obtain ⟨b, off, hA0, _⟩ := hcell 0 (.int .u8 (xs.getD 0 0)) (by cases xs with | nil => simp at hpos | cons y ys => rfl)
    subst hA0
    have := run_convert_bytes_arg (P := P) w T e hT he b off rows.length c xs hrl.symm (fun i hi => by
      obtain ⟨b', off', e1, e2⟩ := hcell i (.int .u8 (xs.getD i 0)) (by rw [List.getElem?_map, List.getD_eq_getElem?_getD, List.getElem?_eq_getElem (by omega)]; rfl)
      cases e1
      exact e2) T2 h2
    simp only [execOp, ho, he']
    rw [Sem.run_bind, this]
    rfl
theorem w_str_own {T T2 e : TypeId} (hT : P.underlying T = some (.slice e)) (he : P.underlying e = some (.int .u8)) (h2 : P.underlying T2 = some .string) {x : Operand} (ho : o.op = .convert T T2 x) {id lo len : Nat} {ob : Ob} (hx : s.ev x = .own id lo len) (hob : s.obj id = .ob ob) (hm : ob.m = 1) (xs : List Int)
    (hr : (ob.rows.drop lo).take len = xs.map fun n => [SV.v (.int .u8 n)]) (hl : xs.length = len) (hpos : 0 < xs.length) {b : ByteArray} (hb : strOfNums xs = b) :
    Step P o (locO x ++ [.obj id]) ⟨o.dst, .v (.string b), []⟩ s := by
  have hL : LstOf s (s.ev x) ob.m ((ob.rows.drop lo).take len) [.obj id] := by
    rw [hx]
    exact .own hob rfl (by rw [hr, List.length_map, hl])
  exact w_str hT he h2 ho hL hm xs hr hpos hb
theorem w_append_nil_own (ht : Tab P tt) {x y : Operand} {T Ty e e2 : TypeId} (ho : o.op = .call { callee := .builtin .append, args := #[x, y], argTypes := #[T, Ty] }) {t : TI} (h1 : tt T = some t) (h2 : t.elem = some e) {u : TI} (h3 : tt e = some u) {t2 : TI} (h4 : tt Ty = some t2) (h5 : t2.elem = some e2)
    (id' : Nat) (hm0 : 0 < u.size) (hx : s.ev x = .v (.slice none 0 0)) {id lo len : Nat} {ob : Ob} (hy : s.ev y = .own id lo len) (hob : s.obj id = .ob ob) (hm : ob.m = u.size) {ry : List (List SV)} (hr : (ob.rows.drop lo).take len = ry) (hrl : ry.length = len) (hone : (ry.all fun r => r.all SV.one) = true) (hpos : 0 < ry.length)
    (hid : s.obj id' = .never) (hlim : ry.length * u.bytes ≤ 140737488355328) (h63 : ry.length ≤ 9223372036854775807) {n : Nat} (hn : ry.length = n) :
    Step P o (locO x ++ locO y ++ [.obj id] ++ [.obj id']) ⟨o.dst, .own id' 0 n, [(id', .ob ⟨u.size, ry, false⟩)]⟩ s := by
  have hL : LstOf s (s.ev y) u.size ry [.obj id] := by
    rw [hy, ← hm]
    exact .own hob hr hrl
  exact w_append_nil ht ho h1 h2 h3 h4 h5 id' hm0 hx hL hone hpos hid hlim h63 hn
theorem w_append_own (ht : Tab P tt) {x y : Operand} {T Ty e e2 : TypeId} (ho : o.op = .call { callee := .builtin .append, args := #[x, y], argTypes := #[T, Ty] }) {t : TI} (h1 : tt T = some t) (h2 : t.elem = some e) {u : TI} (h3 : tt e = some u) {t2 : TI} (h4 : tt Ty = some t2) (h5 : t2.elem = some e2)
    (id' : Nat) {id lo len : Nat} {ob : Ob} {rx ry : List (List SV)} (hm0 : 0 < u.size)
    (hx : s.ev x = .own id lo len) (hob : s.obj id = .ob ob) (him : u.size = ob.m) (hfz : ob.fz = false) (hrx : (ob.rows.drop lo).take len = rx) (hlx : rx.length = len) {id2 lo2 len2 : Nat} {ob2 : Ob} (hy : s.ev y = .own id2 lo2 len2) (hob2 : s.obj id2 = .ob ob2) (hm : ob2.m = ob.m) (hr : (ob2.rows.drop lo2).take len2 = ry) (hrl : ry.length = len2)
    (hone : (ry.all fun r => r.all SV.one) = true) (honex : (rx.all fun r => r.all SV.one) = true)
    (hid : s.obj id' = .never) (hlim : (len + ry.length) * u.bytes ≤ 140737488355328) (h63 : len + ry.length ≤ 9223372036854775807) {n : Nat} (hn : len + ry.length = n) {rows : List (List SV)} (hrows : rx ++ ry = rows) :
    Step P o (locO x ++ locO y ++ [.obj id2] ++ [.obj id] ++ [.obj id']) ⟨o.dst, .own id' 0 n, [(id, .dead), (id', .ob ⟨ob.m, rows, false⟩)]⟩ s := by
  have hL : LstOf s (s.ev y) ob.m ry [.obj id2] := by
    rw [hy, ← hm]
    exact .own hob2 hr hrl
  exact w_append ht ho h1 h2 h3 h4 h5 id' him hm0 hx hob hfz hrx hlx hL hone honex hid hlim h63 hn hrows
end
end Go.Proofs.YtmcflglkfgnbbaaDoor.Eng

/- Rows that are copied over others. -/
namespace Go.Proofs.YtmcflglkfgnbbaaDoor.Eng
open Go Go.RowKit
set_option linter.unusedVariables false
set_option linter.unusedSimpArgs false
section
variable {P : Program} {tt : Nat → Option TI} {o : Oper} {s : St}
theorem addr_add (b off j : Nat) : (⟨b, off, none⟩ : Addr).add j = ⟨b, off + j, none⟩ := by unfold Addr.add; split <;> simp_all
/-- All of a row of single cells over all of another one. -/
theorem w_copy_all (ht : Tab P tt) {x y : Operand} {T Ty e : TypeId} (ho : o.op = .call { callee := .builtin .copy, args := #[x, y], argTypes := #[T, Ty] }) {t : TI} (h1 : tt T = some t) (h2 : t.elem = some e) {u : TI} (h3 : tt e = some u) (hu : u.size = 1)
    {id len : Nat} {ob : Ob} (hx : s.ev x = .own id 0 len) (hob : s.obj id = .ob ob) (hfz : ob.fz = false) (hm : ob.m = 1) (hl : ob.rows.length = len)
    {id2 : Nat} {ob2 : Ob} (hy : s.ev y = .own id2 0 len) (hob2 : s.obj id2 = .ob ob2) (hm2 : ob2.m = 1) (hl2 : ob2.rows.length = len) (hone : (ob2.rows.all fun r => r.all SV.one) = true) :
    Step P o (locO x ++ locO y ++ [.obj id2] ++ [.obj id]) ⟨o.dst, .v (.int .i64 len), [(id, .ob ⟨1, ob2.rows, false⟩)]⟩ s := by
  intro f σ a w K Q hA hd ⟨g, hR⟩ hK
  have hob' : σ.obj id = .ob ob := by rw [agree_obj hA]; exact hob
  have hob2' : σ.obj id2 = .ob ob2 := by rw [agree_obj hA.left]; exact hob2
  have e1 := hR.ev x
  rw [ev_agree hA.left.left.left, hx] at e1
  have e2 := hR.ev y
  rw [ev_agree hA.left.left.right, hy] at e2
  obtain ⟨b2, vs, hb2, hvl, hrep, hcell⟩ := (hR.ob id2 ob2 hob2').cells 0 len (rows := ob2.rows) (rep_ownH e2) (by rw [List.drop_zero, List.take_of_length_le (by omega)]) hl2
  obtain ⟨⟨b', cs, T', fr, k1, k2, k3, k4, k5, k6⟩, k7⟩ := hR.ob id ob hob'
  rw [hm2, Nat.mul_one] at hvl
  rw [hm2] at hrep
  generalize hX : a.eval x = X at e1
  generalize hY : a.eval y = Y at e2
  cases e1 with
  | @own _ _ _ cap b cs1 T1 fr1 hb hlc hH hcap =>
    rw [k1] at hb
    obtain rfl := Option.some.inj hb
    obtain ⟨k7, k2⟩ := k2.cells hH
    cases e2 with
    | @own _ _ _ cap2 b2' cs2 T2 fr2 hb' hlc2 hH2 hcap2 =>
      rw [hb2] at hb'
      obtain rfl := Option.some.inj hb'
      have hsl := (ht T t h1).sl h2
      have hsz := (ht e u h3).sz
      rw [hu] at hsz
      have hk3 := k3.len
      rw [List.length_drop, Array.length_toList, hm, Nat.mul_one, hl] at hk3
      have hcs : cs.toList.length = cs.size := Array.length_toList
      have hc0 : g.o0 id + len ≤ cs.size := by
        rw [k2] at hH
        obtain ⟨rfl, _, _⟩ := Go.Obj.cells.inj (Option.some.inj hH)
        rw [k7, hm, Nat.mul_one] at hcap
        omega
      have hone' : ∀ v ∈ vs, v.oneCell' = true := RepR.one_all hrep (by rw [hvl, hl2, Nat.mul_one]) hone
      have hbound : ∀ j, j < vs.length → g.o0 id + j < cs.size := fun j hj => by omega
      have hrun := run_copy_cells (P := P) w T Ty o.type e b' (g.o0 id + 0 * g.mm id) len cap ⟨b2, g.o0 id2 + 0 * g.mm id2, none⟩ len cap2 vs hsl hsz (by rw [hvl]; simp)
        (fun j v hj => by rw [addr_add]; exact hcell j v hj)
        (fun j hj => by rw [cell_of k2, Nat.zero_mul, Nat.add_zero]; simpa using hbound j hj)
        (fun j hj => frozen_none k2 k4 _ (by have := hbound j hj; omega)) hone'
      obtain ⟨q1, q2, q3, q4, q5, q6⟩ := setCells_heap b' vs (g.o0 id + 0 * g.mm id) w cs T' fr k2
      unfold Oper.wp
      have hex : (execOp a.eval o).run P w = .ok (.value (.int .i64 len)) (w.setCells b' (g.o0 id + 0 * g.mm id) vs) := by
        rw [execOp_builtin ho]
        simp only [List.map_toArray, List.map_cons, List.map_nil, hX, hY]
        have := hrun
        rw [hvl] at this
        simp only [Nat.zero_mul, Nat.add_zero] at this ⊢
        simp [builtin, this, goInt]
      rw [hex, Oper.upon_value]
      refine hK _ _ ⟨g, ?_⟩
      have hT := hR.turn hob' hfz k1 k2 q1 (by simp [length_owr]) q2 q3 q4 q5 q6 ob2.rows (by
        rw [List.toList_toArray, drop_owr, Nat.zero_mul, owr_eq _ _ _ (by rw [List.length_drop]; omega), List.take_zero, List.nil_append, hm]
        exact hrep.more _)
      rw [hm] at hT
      exact Rel.put hT o.dst hd (.v _)
end
end Go.Proofs.YtmcflglkfgnbbaaDoor.Eng

