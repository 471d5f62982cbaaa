/- Code, and calls. -/
import Derived.Test.YtcbbpidnocgoiaaDoorEng7
namespace Go.Proofs.YtcbbpidnocgoiaaDoor.Eng
open Go Go.RowKit
set_option linter.unusedVariables false
set_option linter.unusedSimpArgs false

def edgesOk (ops : Array Oper) : Bool := (List.range ops.size).all fun k => match ops[k]? with | some o => o.after.toList.all fun e => !Region.binds .any e || decide (e.on < k) | none => true
theorem edgesOk.of {ops : Array Oper} (h : edgesOk ops = true) (k : Nat) (o : Oper) (ho : ops[k]? = some o) (e : Edge) (he : e ∈ o.after) (hb : Region.binds .any e = true) : e.on < k := by
  have hk := (Array.getElem?_eq_some_iff.1 ho).1
  have h1 := List.all_eq_true.1 h k (List.mem_range.2 hk)
  rw [ho] at h1
  have h2 := List.all_eq_true.1 h1 e (by simpa using he)
  rw [hb] at h2
  simpa using h2
def codeOk (N : Nat) : Code → Bool
  | .region _ ops _ => dstsOk N ops && edgesOk ops
  | .seq a b => codeOk N a && codeOk N b
  | .cond _ a b => codeOk N a && codeOk N b
  | .block _ a => codeOk N a
  | .loop a => codeOk N a
  | .skip => true
  | .exit _ => true
  | .ret => true
  | _ => false
/-- From a told state this code comes, by some exit, to one of which Q holds. -/
def Cwp (P : Program) (c : Code) (s : St) (Q : Exit → St → Prop) : Prop :=
  ∀ (f : Fr) (a : Act) (w : World), codeOk f.N c = true → R f s a w → c.wp P (fun ex a' w' => ∃ s', Q ex s' ∧ R f s' a' w') a w
def thenS (K : St → Prop) (Q : Exit → St → Prop) : Exit → St → Prop
  | .normal, s => K s
  | e, s => Q e s
def blockS (id : Nat) (Q : Exit → St → Prop) : Exit → St → Prop
  | .exit id', s => if id' = id then Q .normal s else Q (.exit id') s
  | e, s => Q e s
/-- What is told may be told with less. -/
def Wk (s s' : St) : Prop := ∀ (f : Fr) (a : Act) (w : World), R f s a w → R f s' a w
section
variable {P : Program} {s : St} {Q : Exit → St → Prop}
theorem cwp_wk {c : Code} {s' : St} (hw : Wk s s') (h : Cwp P c s' Q) : Cwp P c s Q := fun f a w hok hR => h f a w hok (hw f a w hR)
theorem cwp_mono {c : Code} {Q' : Exit → St → Prop} (h : Cwp P c s Q) (hq : ∀ e s', Q e s' → Q' e s') : Cwp P c s Q' := fun f a w hok hR => wp_mono (h f a w hok hR) fun e a' w' ⟨s', hs, hR'⟩ => ⟨s', hq _ _ hs, hR'⟩
theorem cwp_region {id : Nat} {ops : Array Oper} {l : List (List Loc × Eff)} {s' : St} (hc : Chain P ops 0 s l s') (hl : l.length = ops.size) (h : Q .normal s') : Cwp P (.region id ops false) s Q := by
  intro f a w hok hR
  have hok : (dstsOk f.N ops && edgesOk ops) = true := hok
  rw [Bool.and_eq_true] at hok
  refine wp_region ?_
  have := hc.inText (Q := fun ex a' w' => ∃ s', Q ex s' ∧ R f s' a' w') hok.1 hR fun a' w' hR' => ⟨s', h, hR'⟩
  rwa [hl, ← List.range_eq_range'] at this
theorem R.drew {f : Fr} {a : Act} {w : World} (h : R f s a w) : R f s a { w with drawn := w.drawn + 1 } := by
  obtain ⟨g, h⟩ := h
  exact ⟨g, h.drew rfl rfl rfl rfl⟩
theorem cwp_region_draw {id : Nat} {ops : Array Oper} {l : List (List Loc × Eff)} {s' : St} (B : List Nat) (hm : P.follows .mixedOrders = true) (hc : Chain P ops 0 s l s') (hl : l.length = ops.size) (hB : okTab ops B = true) (hI : indepOk B l = true) (h : Q .normal s') :
    Cwp P (.region id ops true) s Q := by
  intro f a w hok hR
  have hok : (dstsOk f.N ops && edgesOk ops) = true := hok
  rw [Bool.and_eq_true] at hok
  refine wp_region_any hm ?_
  refine hc.any (Q := fun ex a' w' => ∃ s', Q ex s' ∧ R f s' a' w') hok.1 hl hB hI (fun k o ho e he hb => edgesOk.of hok.2 k o ho e he hb) ops.size _ (by simp) ?_ ?_ ?_ fun a' w' hR' => ⟨s', h, hR'⟩
  · intro k o ho hk
    simp only [Array.getD_eq_getD_getElem?, Array.getElem?_replicate] at hk
    split at hk <;> cases hk
  · exact Nat.le_trans List.countP_le_length (by simp)
  · have hz : ∀ (l : List (List Loc × Eff)) (i : Nat) (s : St), foldE (fun k => (Array.replicate ops.size false).getD k false) i l s = s := by
      intro l
      induction l with
      | nil => intro i s; rfl
      | cons p l ih =>
        intro i s
        obtain ⟨L, e⟩ := p
        rw [foldE, if_neg (by simp only [Array.getD_eq_getD_getElem?, Array.getElem?_replicate]; split <;> simp)]
        exact ih _ _
    rw [hz]
    exact hR.drew
theorem cwp_skip (h : Q .normal s) : Cwp P .skip s Q := fun f a w _ hR => wp_skip ⟨s, h, hR⟩
theorem cwp_exit {id : Nat} (h : Q (.exit id) s) : Cwp P (.exit id) s Q := fun f a w _ hR => wp_exit ⟨s, h, hR⟩
theorem cwp_ret (h : Q .ret s) : Cwp P .ret s Q := fun f a w _ hR => wp_ret ⟨s, h, hR⟩
theorem cwp_seq {x y : Code} (h : Cwp P x s (thenS (fun s' => Cwp P y s' Q) Q)) : Cwp P (.seq x y) s Q := by
  intro f a w hok hR
  have hok : (codeOk f.N x && codeOk f.N y) = true := hok
  rw [Bool.and_eq_true] at hok
  refine wp_seq (wp_mono (h f a w hok.1 hR) fun e a' w' ⟨s', hs, hR'⟩ => ?_)
  cases e with
  | normal => exact hs f a' w' hok.2 hR'
  | _ => exact ⟨s', hs, hR'⟩
theorem cwp_cond {c : Operand} {x y : Code} {b : Bool} (hc : s.ev c = .v (.bool b)) (h1 : b = true → Cwp P x s Q) (h2 : b = false → Cwp P y s Q) : Cwp P (.cond c x y) s Q := by
  intro f a w hok hR
  have hok : (codeOk f.N x && codeOk f.N y) = true := hok
  rw [Bool.and_eq_true] at hok
  have hR0 := hR
  obtain ⟨g, hg⟩ := hR0
  exact wp_cond_split (ev_v hg (Agree.refl _ _) hc) (fun e => h1 e f a w hok.1 hR) (fun e => h2 e f a w hok.2 hR)
theorem cwp_block {id : Nat} {c : Code} (h : Cwp P c s (blockS id Q)) : Cwp P (.block id c) s Q := by
  intro f a w hok hR
  refine wp_block (wp_mono (h f a w hok hR) fun e a' w' ⟨s', hs, hR'⟩ => ?_)
  cases e with
  | exit id' =>
    have hs : (if id' = id then Q .normal s' else Q (.exit id') s') := hs
    show (if id' = id then _ else _)
    by_cases e : id' = id
    · rw [if_pos e] at hs ⊢; exact ⟨s', hs, hR'⟩
    · rw [if_neg e] at hs ⊢; exact ⟨s', hs, hR'⟩
  | _ => exact ⟨s', hs, hR'⟩
theorem cwp_loop {c : Code} (I : Nat → St → Prop) {n : Nat} (h0 : I n s) (hr : ∀ n s, I n s → Cwp P c s (thenS (fun s' => ∃ m, m < n ∧ I m s') Q)) : Cwp P (.loop c) s Q := by
  intro f a w hok hR
  intro b k cs
  have key : ∀ n s a w, I n s → R f s a w →
      ∃ e a' w', (∃ s', Q e s' ∧ R f s' a' w') ∧ Arrives P (lone (b.at a (.code c :: .inLoop c :: k)) cs w) b k cs e a' w' := by
    intro n
    induction n using Nat.strongRecOn with
    | _ n ih =>
      intro s a w hI hR
      obtain ⟨e, a₁, w₁, ⟨s₁, hq, hR₁⟩, harr⟩ := hr n s hI f a w hok hR b (.inLoop c :: k) cs
      cases e with
      | normal =>
        obtain ⟨m, hlt, hI₁⟩ := hq
        obtain ⟨e₂, a₂, w₂, hq₂, harr₂⟩ := ih m hlt s₁ a₁ w₁ hI₁ hR₁
        exact ⟨e₂, a₂, w₂, hq₂, .of_steps (Steps.trans harr (.one step_inLoop)) harr₂⟩
      | exit id => exact ⟨_, a₁, w₁, ⟨s₁, hq, hR₁⟩, .pass (x := .inLoop c) rfl (fun _ _ => .inl (by simp)) harr⟩
      | goto l => exact ⟨_, a₁, w₁, ⟨s₁, hq, hR₁⟩, .pass (x := .inLoop c) rfl (fun _ _ => .inl (by simp)) harr⟩
      | ret => exact ⟨_, a₁, w₁, ⟨s₁, hq, hR₁⟩, .pass (x := .inLoop c) rfl (fun _ _ => .inl (by simp)) harr⟩
      | panic ch => exact ⟨_, a₁, w₁, ⟨s₁, hq, hR₁⟩, .pass (x := .inLoop c) rfl (fun _ _ => .inl (by simp)) harr⟩
      | outgrown => exact ⟨_, a₁, w₁, ⟨s₁, hq, hR₁⟩, .pass (x := .inLoop c) rfl (fun _ _ => .inl (by simp)) harr⟩
  obtain ⟨e, a', w', hq, harr⟩ := key n s a w h0 hR
  exact ⟨e, a', w', hq, .of_steps (.one step_loop) harr⟩
end

/-! ### What depends on no object -/
def clo (F : Nat → Prop) : Gh := ⟨fun _ => none, fun _ => 0, fun _ => 0, F⟩
mutual
def SV.closed : SV → Bool
  | .v _ => true
  | .ref .. => false
  | .own .. => false
  | .lst _ rows => closedR rows
  | .agg cs => closedL cs
  | .tup cs => closedL cs
  | .elt cs _ => closedL cs
def closedL : List SV → Bool
  | [] => true
  | x :: l => x.closed && closedL l
def closedR : List (List SV) → Bool
  | [] => true
  | x :: l => closedL x && closedR l
end
mutual
theorem Rep.clo {g : Gh} {H : Array Go.Obj} : ∀ {x : Value} {s : SV}, Rep g H x s → s.closed = true → Rep (clo g.F) H x s
  | _, _, .v x, _ => .v x
  | _, _, .nil, _ => .nil
  | _, _, .lst hn hF h hl hc hr, hs => .lst hn hF h hl hc (RepR.clo hr hs)
  | _, _, .agg h, hs => .agg (RepL.clo h hs)
  | _, _, .tup h, hs => .tup (RepL.clo h hs)
  | _, _, .elt hF h hj hr, hs => .elt hF h hj (RepL.clo hr hs)
theorem RepL.clo {g : Gh} {H : Array Go.Obj} : ∀ {xs : List Value} {ss : List SV}, RepL g H xs ss → closedL ss = true → RepL (Eng.clo g.F) H xs ss
  | _, _, .nil, _ => .nil
  | _, _, .cons (s := s) (ss := ss) h t, hs => by
    have hs : (s.closed && closedL ss) = true := hs
    rw [Bool.and_eq_true] at hs
    exact .cons (Rep.clo h hs.1) (RepL.clo t hs.2)
theorem RepR.clo {g : Gh} {H : Array Go.Obj} : ∀ {xs : List Value} {m : Nat} {rows : List (List SV)}, RepR g H xs m rows → closedR rows = true → RepR (Eng.clo g.F) H xs m rows
  | _, _, _, .nil, _ => .nil
  | _, _, _, .cons (r := r) (rows := rows) hm h t, hs => by
    have hs : (closedL r && closedR rows) = true := hs
    rw [Bool.and_eq_true] at hs
    exact .cons hm (RepL.clo h hs.1) (RepR.clo t hs.2)
end
theorem GExt.clo (g : Gh) : GExt (Eng.clo g.F) g := ⟨fun _ _ h => (by cases h), fun _ h => h⟩
theorem GExt.clo' {F F' : Nat → Prop} (h : ∀ b, F b → F' b) : GExt (Eng.clo F) (Eng.clo F') := ⟨fun _ _ h => (by cases h), h⟩
theorem closedR_all : ∀ {rows : List (List SV)}, (rows.all fun r => closedL r) = true → closedR rows = true
  | [], _ => rfl
  | r :: rows, h => by
    rw [List.all_cons, Bool.and_eq_true] at h
    show (closedL r && closedR rows) = true
    rw [h.1, closedR_all h.2]
    rfl
theorem closedL_all : ∀ {l : List SV}, (l.all fun r => r.closed) = true → closedL l = true
  | [], _ => rfl
  | r :: rows, h => by
    rw [List.all_cons, Bool.and_eq_true] at h
    show (r.closed && closedL rows) = true
    rw [h.1, closedL_all h.2]
    rfl
theorem closedR_map {α : Type} (enc : α → List SV) (h : ∀ x, closedL (enc x) = true) : ∀ l : List α, closedR (l.map enc) = true
  | [] => rfl
  | x :: l => by
    show (closedL (enc x) && closedR (l.map enc)) = true
    rw [h x, closedR_map enc h l]
    rfl
/-- What a slot holds, told without objects: rows that are never written again are told as lists. -/
def Sol (s : St) (sv sv' : SV) (L : List Loc) : Prop :=
  ∀ (f : Fr) (g : Gh) (σ : St) (a : Act) (w : World) (x : Value), Agree L s σ → Rel f g σ a w → Rep g w.heap x sv → Rep (clo g.F) w.heap x sv'
inductive SolL (s : St) : List SV → List SV → List Loc → Prop where
  | nil : SolL s [] [] []
  | cons {x x' : SV} {l l' : List SV} {L M : List Loc} (h : Sol s x x' L) (t : SolL s l l' M) : SolL s (x :: l) (x' :: l') (L ++ M)
theorem SolL.rep {s : St} : ∀ {l l' : List SV} {L : List Loc}, SolL s l l' L → ∀ {f : Fr} {g : Gh} {σ : St} {a : Act} {w : World} {xs : List Value}, Agree L s σ → Rel f g σ a w → RepL g w.heap xs l → RepL (clo g.F) w.heap xs l'
  | _, _, _, .nil, _, _, _, _, _, _, _, _, .nil => .nil
  | _, _, _, .cons h t, _, _, _, _, _, _, hA, hR, .cons hx ht => .cons (h _ _ _ _ _ _ hA.left hR hx) (t.rep hA.right hR ht)
theorem Sol.clo {s : St} {sv : SV} (h : sv.closed = true) : Sol s sv sv [] := fun f g σ a w x hA hR hx => hx.clo h
theorem Sol.agg {s : St} {l l' : List SV} {L : List Loc} (h : SolL s l l' L) : Sol s (.agg l) (.agg l') L := fun f g σ a w x hA hR hx => by
  cases hx with
  | agg hx => exact .agg (h.rep hA hR hx)
theorem Sol.nil {s : St} {m : Nat} : Sol s (.v (.slice none 0 0)) (.lst m []) [] := fun f g σ a w x hA hR hx => by
  obtain rfl := rep_v hx
  exact .nil
theorem Sol.own {s : St} {id lo len : Nat} {ob : Ob} {rows : List (List SV)} (ho : s.obj id = .ob ob) (hz : ob.fz = true) (hr : (ob.rows.drop lo).take len = rows) (hl : rows.length = len) (hc : closedR rows = true) :
    Sol s (.own id lo len) (.lst ob.m rows) [.obj id] := fun f g σ a w x hA hR hx => by
  have ho' : σ.obj id = .ob ob := by rw [hA.2 id (List.mem_singleton.2 rfl)]; exact ho
  obtain ⟨⟨b, cs, T, fr, k1, k2, k3, k4, k5, k6⟩, k7⟩ := hR.ob id ob ho'
  cases hx with
  | @own _ _ _ cap b2 cs2 T2 fr2 hb hlc hH hcap =>
    rw [k1] at hb
    obtain rfl := Option.some.inj hb
    rw [k2] at hH
    obtain ⟨rfl, rfl, rfl⟩ := Go.Obj.cells.inj (Option.some.inj hH)
    rcases Nat.eq_zero_or_pos len with h0 | hpos
    · have : rows = [] := List.eq_nil_of_length_eq_zero (by omega)
      subst this
      subst h0
      exact .nil
    · have hlen := congrArg List.length hr
      rw [List.length_take, List.length_drop, hl] at hlen
      have hd := (k3.drop lo (by omega)).take len
      rw [hr, List.drop_drop] at hd
      have hmul : (lo + cap) * g.mm id = lo * g.mm id + cap * g.mm id := Nat.add_mul ..
      rw [k7] at hmul hcap ⊢
      refine .lst hl.symm (k5 hz) k2 hlc (by omega) (RepR.clo hd hc)

/-! ### Calls of functions that take no objects -/
def PCall (P : Program) (fid : FuncId) (args : List SV) (res : SV) : Prop :=
  ∀ (F : Nat → Prop) (w : World) (vs : List Value), (∀ b, F b → b < w.heap.size) → TabsOk F w → RepL (clo F) w.heap vs args →
    Calls P fid vs.toArray w fun e w' => ∃ v F', e = .returned v ∧ Rep (clo F') w'.heap v res ∧ (∀ b, F b → F' b) ∧ (∀ b, F' b → b < w.heap.size → F b) ∧ (∀ b, F' b → b < w'.heap.size) ∧ Below w.heap.size w w'
theorem Rel.after {f : Fr} {g : Gh} {s : St} {a : Act} {w w' : World} (h : Rel f g s a w) {F' : Nat → Prop} (h1 : ∀ b, g.F b → F' b) (h2 : ∀ b, F' b → b < w.heap.size → g.F b) (h3 : ∀ b, F' b → b < w'.heap.size) (hb : Below w.heap.size w w') :
    Rel f { g with F := F' } s a w' := by
  have hg : GExt g { g with F := F' } := ⟨fun _ _ h => ⟨h, rfl, rfl⟩, h1⟩
  have hold : ∀ (b : Nat) (o : Go.Obj), w.heap[b]? = some o → w'.heap[b]? = some o := fun b o hbo => by
    rw [hb.block b (Array.getElem?_eq_some_iff.1 hbo).1]
    exact hbo
  have hH : Ext g.F w.heap w'.heap := ⟨fun b cs T fr h => ⟨cs, fr, hold _ _ h, rfl, fun _ => rfl⟩⟩
  exact { slot := fun t => (h.slot t).ext hg hH, size := h.size, defers := h.defers, never := h.never, ob := fun i o ho => ObRep.ext hg (fun b hF hlt => .inl (h2 b hF hlt)) hH (fun b cs T fr _ hbo => hold _ _ hbo) (h.ob i o ho), inj := h.inj, own := h.own,
          base := fun b hlt hW => by have := h.hsize; rw [hb.block b (by omega)]; exact h.base b hlt hW, hsize := Nat.le_trans h.hsize hb.size, F0 := fun b hF => h1 b (h.F0 b hF), Fold := fun b hF hlt => h.Fold b (h2 b hF (by have := h.hsize; omega)) hlt, Flt := h3,
          os := by rw [hb.os]; exact h.os, tape := by rw [hb.tape]; exact h.tape, output := by rw [hb.output]; exact h.output, gext := h.gext, kept := h.kx hH, tb := h.tb.ext h1 hH }
def frz (l : List (Nat × Ob)) : List (Nat × OS) := l.map fun x => (x.1, .ob ⟨x.2.m, x.2.rows, true⟩)
theorem Rel.freezes {f : Fr} : ∀ (l : List (Nat × Ob)) {g : Gh} {s : St} {a : Act} {w : World}, Rel f g s a w → (∀ x ∈ l, s.obj x.1 = .ob x.2) → (l.map (·.1)).Nodup → ∃ g', GExt g g' ∧ Rel f g' (s.upds (frz l)) a w
  | [], g, s, a, w, h, _, _ => ⟨g, GExt.refl g, h⟩
  | (id, o) :: l, g, s, a, w, h, hl, hn => by
    obtain ⟨g1, hg1, h1⟩ := h.freeze id o (hl (id, o) List.mem_cons_self)
    rw [List.map_cons, List.nodup_cons] at hn
    obtain ⟨g2, hg2, h2⟩ := Rel.freezes l h1 (fun x hx => by
      have hne : x.1 ≠ id := fun e => hn.1 (List.mem_map.2 ⟨x, hx, e⟩)
      show (if x.1 = id then _ else s.obj x.1) = _
      rw [if_neg hne]
      exact hl x (List.mem_cons_of_mem _ hx)) hn.2
    refine ⟨g2, ⟨fun i b hb => ?_, fun b hb => hg2.F b (hg1.F b hb)⟩, h2⟩
    obtain ⟨q1, q2, q3⟩ := hg1.β i b hb
    obtain ⟨r1, r2, r3⟩ := hg2.β i b q1
    exact ⟨r1, by rw [r2, q2], by rw [r3, q3]⟩
def objLocs (l : List (Nat × Ob)) : List Loc := l.map fun x => .obj x.1
section
variable {P : Program} {o : Oper} {s : St}
theorem run_call {fid : FuncId} {fn : Func} {xs : Array Operand} {ts : Array TypeId} (ho : o.op = .call { callee := .value (.func fid), args := xs, argTypes := ts }) (hf : P.funcs[fid]? = some fn) (hname : (fn.name == "runtime.NumGoroutine") = false) (hb : fn.body.isSome = true) (a : Act) (w : World) :
    (execOp a.eval o).run P w = .ok (.enter fid (xs.map a.eval)) w := by
  have h1 : fn.name ≠ "runtime.NumGoroutine" := by simpa using hname
  obtain ⟨c, hc⟩ := Option.isSome_iff_exists.1 hb
  have he : ∀ args : Array Value, (callFunc fid args).run P w = .ok (.enter fid args) w := fun args => by
    simp [callFunc, hf, h1, hc]
  simp [execOp, ho, resolve, Deferred.ofValue, invoke, Act.eval, he]
theorem repL_ev {f : Fr} {g : Gh} {σ : St} {a : Act} {w : World} (hR : Rel f g σ a w) : ∀ (xs : List Operand), RepL g w.heap (xs.map a.eval) (xs.map σ.ev)
  | [] => .nil
  | x :: xs => .cons (hR.ev x) (repL_ev hR xs)
theorem map_ev_agree {σ : St} : ∀ {xs : List Operand}, Agree (locs xs) s σ → xs.map σ.ev = xs.map s.ev
  | [], _ => rfl
  | x :: xs, h => by rw [List.map_cons, List.map_cons, ev_agree h.left, map_ev_agree h.right]
/-- A call. -/
theorem step_call {fid : FuncId} {fn : Func} {xs : Array Operand} {ts : Array TypeId} (ho : o.op = .call { callee := .value (.func fid), args := xs, argTypes := ts }) (hf : P.funcs[fid]? = some fn) (hname : (fn.name == "runtime.NumGoroutine") = false) (hb : fn.body.isSome = true)
    (fzs : List (Nat × Ob)) (hfz : ∀ x ∈ fzs, s.obj x.1 = .ob x.2) (hnd : (fzs.map (·.1)).Nodup) {args : List SV} {res : SV} {L : List Loc} (hargs : SolL (s.upds (frz fzs)) (xs.toList.map s.ev) args L) (hc : PCall P fid args res) :
    Step P o (locs xs.toList ++ objLocs fzs ++ L) ⟨o.dst, res, frz fzs⟩ s := by
  intro f σ a w K Q hA hd ⟨g, hR⟩ hK
  have hobj : ∀ x ∈ fzs, σ.obj x.1 = .ob x.2 := fun x hx => by
    rw [hA.left.right.2 x.1 (List.mem_map.2 ⟨x, hx, rfl⟩)]
    exact hfz x hx
  obtain ⟨g1, hg1, hR1⟩ := hR.freezes fzs hobj hnd
  have hA1 : Agree L (s.upds (frz fzs)) (σ.upds (frz fzs)) := by
    refine ⟨fun t ht => ?_, fun i hi => ?_⟩
    · rw [upds_slot, upds_slot]
      exact hA.right.1 t ht
    · rw [upds_obj, upds_obj, hA.right.2 i hi]
  have hrep := repL_ev hR xs.toList
  rw [map_ev_agree hA.left.left] at hrep
  have hrep1 := hargs.rep hA1 hR1 (hrep.ext hg1 (Ext.refl _ _))
  have hcall := hc g1.F w _ hR1.Flt hR1.tb hrep1
  unfold Oper.wp
  rw [run_call ho hf hname hb, Oper.upon_enter]
  have harr : (xs.map a.eval) = (xs.toList.map a.eval).toArray := by
    apply Array.ext'
    simp
  rw [harr]
  refine hcall.mono fun e w' he => ?_
  obtain ⟨v, F', rfl, hv, h1, h2, h3, hB⟩ := he
  refine hK _ _ ⟨{ g1 with F := F' }, ?_⟩
  have hafter := hR1.after h1 h2 h3 hB
  exact Rel.put hafter o.dst hd (hv.ext (GExt.clo { g1 with F := F' }) (Ext.refl _ _))
end

/-! ### A function's contract, out of its body's -/
def St0 (args : List SV) : St := ⟨fun t => args.getD t (.v undef), fun _ => .never⟩
def Res (P : Program) (fn : Func) (s : St) (res : SV) : Prop :=
  ∀ (f : Fr) (g : Gh) (a : Act) (w : World), Rel f g s a w → ∃ v, (results fn a.tmps).run P w = .ok v w ∧ Rep (clo g.F) w.heap v res
theorem PCall.of {P : Program} {fid : FuncId} {fn : Func} {c : Code} {args : List SV} {res : SV} (hf : P.funcs[fid]? = some fn) (hb : fn.body = some c) (hok : codeOk fn.ntmps c = true) (hn : args.length ≤ fn.ntmps)
    (h : Cwp P c (St0 args) fun ex s' => (ex = .ret ∨ ex = .normal) ∧ Res P fn s' res) : PCall P fid args res := by
  intro F w vs hFlt hTb hrep
  have hvl := hrep.length
  refine calls_of_wp hf hb ?_
  have hR : R ⟨w, fun _ => False, F, fn.ntmps, clo F⟩ (St0 args) { tmps := vs.toArray ++ Array.replicate (fn.ntmps - vs.toArray.size) undef, defers := [] } w := by
    refine ⟨clo F, { slot := fun t => ?_, size := by simp; omega, defers := rfl, never := fun _ _ => rfl, ob := fun i o ho => (by cases ho), inj := fun i j o o' b ho => (by cases ho), own := fun i o b ho => (by cases ho), base := fun _ _ _ => rfl, hsize := Nat.le_refl _, F0 := fun _ h => h, Fold := fun _ h _ => .inl h, Flt := hFlt, os := rfl, tape := rfl, output := rfl, gext := fun _ _ h => ⟨h, rfl, rfl⟩, kept := fun b cs T fr h => ⟨cs, fr, h, rfl⟩, tb := hTb }⟩
    show Rep _ _ _ (args.getD t (.v undef))
    by_cases ht : t < args.length
    · obtain ⟨x, hx, hR⟩ := hrep.get t args[t] (List.getElem?_eq_getElem ht)
      have : (vs.toArray ++ Array.replicate (fn.ntmps - vs.toArray.size) undef).getD t undef = x := by
        rw [Array.getD_eq_getD_getElem?, Array.getElem?_append_left (by simp; omega)]
        simp [hx]
      rw [this, List.getD_eq_getElem?_getD, List.getElem?_eq_getElem ht]
      exact hR
    · have : (vs.toArray ++ Array.replicate (fn.ntmps - vs.toArray.size) undef).getD t undef = undef := by
        rw [Array.getD_eq_getD_getElem?, Array.getElem?_append_right (by simp; omega), Array.getElem?_replicate]
        split <;> rfl
      rw [this, List.getD_eq_getElem?_getD, List.getElem?_eq_none (by omega)]
      exact .v _
  refine wp_mono (h _ _ _ hok hR) fun ex a' w' ⟨s', ⟨hex, hres⟩, g, hR'⟩ => ?_
  obtain ⟨v, hv, hrv⟩ := hres _ _ _ _ hR'
  have hfin : a'.defers = [] ∧ ∃ v, (results fn a'.tmps).run P w' = .ok v w' ∧ ∃ v_1 F', Ending.returned v = .returned v_1 ∧ Rep (clo F') w'.heap v_1 res ∧ (∀ b, F b → F' b) ∧ (∀ b, F' b → b < w.heap.size → F b) ∧ (∀ b, F' b → b < w'.heap.size) ∧ Below w.heap.size w w' :=
    ⟨hR'.defers, v, hv, v, g.F, rfl, hrv, hR'.F0, fun b hF hlt => (hR'.Fold b hF hlt).resolve_right id, hR'.Flt, ⟨hR'.os, hR'.tape, hR'.output, hR'.hsize, fun k hk => hR'.base k hk id⟩⟩
  rcases hex with rfl | rfl
  · exact hfin
  · exact hfin
/-- One result in a slot. -/
theorem res_one {P : Program} {fn : Func} {s : St} {t : Nat} {sv : SV} {L : List Loc} (hr : fn.results = #[.tmp t]) {res : SV} (hs : Sol s (s.slot t) res L) : Res P fn s res := fun f g a w hR => by
  refine ⟨a.tmps.getD t undef, ?_, hs f g s a w _ (Agree.refl _ _) hR (hR.slot t)⟩
  simp [results, hr]
/-- One result in a variable: a struct. -/
theorem res_cell {P : Program} {fn : Func} {s : St} {t : Nat} {T : TypeId} (hr : fn.results = #[.cell t T]) {d : TypeDesc} (hu : P.underlying T = some d) (hd : d.isRow = true) {n : Nat} (hn : (P.info? T).map (·.size) = some n) {id i j : Nat} {ob : Ob} {r cells : List SV}
    (hx : s.slot t = .ref id i j) (hob : s.obj id = .ob ob) (hrow : ob.rows[i]? = some r) (hc : (r.drop j).take n = cells) (hl : cells.length = n) {res : SV} {L : List Loc} (hs : Sol s (.agg cells) res L) : Res P fn s res := fun f g a w hR => by
  have h1 := hR.slot t
  rw [hx] at h1
  obtain ⟨b, hb, he⟩ := rep_ref h1
  have hO := hR.ob id ob hob
  obtain ⟨vs, hvs, hra⟩ := range_vals (cells := cells) (b := b) (off := g.o0 id + i * g.mm id) cells j fun k sv hk => by
    rw [← hc] at hk
    have := hO.cellAt hb hrow (take_get hk)
    rwa [← Nat.add_assoc] at this
  have hm := run_loadVar_mid (P := P) w b (g.o0 id + i * g.mm id + j) T vs d hra hu hd (by rw [hn, hvs.length, hl])
  rw [Nat.add_assoc] at hm
  refine ⟨.agg vs.toArray, ?_, hs f g s a w _ (Agree.refl _ _) hR (.agg (by simpa using hvs))⟩
  have he' : a.tmps[t]?.getD undef = .pointer (some ⟨b, g.o0 id + (i * g.mm id + j), none⟩) := by rw [← Array.getD_eq_getD_getElem?]; exact he
  simp [results, hr, he', asAddr, Sem.run_bind, hm]
end Go.Proofs.YtcbbpidnocgoiaaDoor.Eng
