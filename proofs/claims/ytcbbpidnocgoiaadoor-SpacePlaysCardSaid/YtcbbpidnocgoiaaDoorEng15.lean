/- Calls and tables, as walks use them. -/
import Derived.Test.YtcbbpidnocgoiaaDoorEng14
namespace Go.Proofs.YtcbbpidnocgoiaaDoor.Eng
open Go Go.RowKit
set_option linter.unusedVariables false
set_option linter.unusedSimpArgs false
theorem objs_ok {objs' : List OS} {s : St} (h : (List.range objs'.length).map s.obj = objs') : ∀ i x, objs'[i]? = some x → s.obj i = x := fun i x hx => by
  have hlt := (List.getElem?_eq_some_iff.1 hx).1
  have := congrArg (fun l => l[i]?) h
  simp only [List.getElem?_map, List.getElem?_range hlt, Option.map_some, hx, Option.some.injEq] at this
  exact this
section
variable {P : Program} {tt : Nat → Option TI} {o : Oper} {s : St}
theorem SolHL.of_ren {ρ : Nat → Nat} {n : Nat} {s : St} : ∀ {l' : List SV}, ltL n l' = true → SolHL ρ n s (renL ρ l') l' []
  | [], _ => .nil
  | x :: l, h => by
    have h : (x.lt n && ltL n l) = true := h
    rw [Bool.and_eq_true] at h
    exact .cons (L := []) (M := []) (.ren rfl h.1) (SolHL.of_ren h.2)
theorem w_call {fid : FuncId} {objs : List Ob} {args : List SV} {objs' : List OS} {res : SV} (hc : HCall P fid objs args objs' res) (fzs : List (Nat × Ob)) (ids new : List Nat) {fn : Func} (hf : P.funcs[fid]? = some fn) {xs : Array Operand} {ts : Array TypeId}
    (ho : o.op = .call { callee := .value (.func fid), args := xs, argTypes := ts }) (hname : (fn.name == "runtime.NumGoroutine") = false) (hb : fn.body.isSome = true) (hfz : (fzs.map fun x => s.obj x.1) = fzs.map fun x => .ob x.2) (hnd : (fzs.map (·.1)).Nodup) (hn : (ids ++ new).Nodup)
    {cobs : List Ob} (hco : objs.map (Ob.ren (nameH (ids ++ new))) = cobs) (hin : ids.map (s.upds (frz fzs)).obj = cobs.map .ob) (hnew : new.map (s.upds (frz fzs)).obj = new.map fun _ => .never) (hlt : (objs.all fun o => ltR ids.length o.rows) = true)
    (hl : objs'.length = (ids ++ new).length) (hok : objs'.all (OS.okH (ids ++ new).length) = true) (hres : res.lt (ids ++ new).length = true) 
    (hargs : renL (nameH (ids ++ new)) args = xs.toList.map s.ev) (hal : ltL ids.length args = true) {res' : SV} (hr : res.ren (nameH (ids ++ new)) = res') {ob' : List (Nat × OS)} (ho' : frz fzs ++ zipH (nameH (ids ++ new)) (ids ++ new) objs' = ob') :
    Step P o (locs xs.toList ++ objLocs fzs ++ [] ++ (ids ++ new).map .obj) ⟨o.dst, res', ob'⟩ s := by
  subst hr ho' hco
  refine step_hcall ho hf hname hb fzs (fun x hx => ?_) hnd ids new hn (by rw [hin, List.map_map]; rfl) (fun i hi => ?_) hlt hl hok hres (by rw [← hargs]; exact SolHL.of_ren hal) hc
  · obtain ⟨k, hk⟩ := List.mem_iff_getElem?.1 hx
    have := congrArg (fun l => l[k]?) hfz
    simpa [List.getElem?_map, hk] using this
  · obtain ⟨k, hk⟩ := List.mem_iff_getElem?.1 hi
    have := congrArg (fun l => l[k]?) hnew
    simpa [List.getElem?_map, hk] using this
def aun : UnOp → Value → Option Value
  | .neg, .int k n => abin .sub (.int k 0) (.int k n)
  | .xor, .int k n => abin .xor (.int k (if k.signed then -1 else k.max)) (.int k n)
  | .not, .bool b => some (.bool !b)
  | _, _ => none
theorem aun_run {op : UnOp} {x v : Value} (h : aun op x = some v) (w : World) : (Op.unary op x).run P w = .ok v w := by
  cases op <;> cases x <;> first | (cases h; done) | skip
  all_goals simp only [aun, abin, if_true, Option.some.injEq] at h
  all_goals (subst h; simp [Op.unary, Op.intArith, Op.intBits])
theorem w_un {op : UnOp} {T : TypeId} {x : Operand} (ho : o.op = .unOp op T x) {a v : Value} (hx : s.ev x = .v a) (hv : aun op a = some v) : Step P o (locO x) ⟨o.dst, .v v, []⟩ s :=
  step_value fun g σ f ac w hA hR => by
    have e1 := ev_v hR hA hx
    refine ⟨v, ?_, .v _⟩
    simp only [execOp, ho, e1]
    simp [aun_run hv]
theorem TIok.it {T : TypeId} {t : TI} (h : TIok P T t) {k : IntKind} (hp : t.ik = some k) : P.underlying T = some (.int k) := by
  obtain ⟨d, i, z, h1, h2, h3, h4, h5, h6, h7, h8, h9, h10, h11, h12, h13⟩ := h
  rw [h1, h13 k hp]
theorem w_conv (ht : Tab P tt) {T1 T2 : TypeId} {x : Operand} (ho : o.op = .convert T1 T2 x) {t1 t2 : TI} (h1 : tt T1 = some t1) (h2 : tt T2 = some t2) {k k2 : IntKind} (h3 : t2.ik = some k2) {a b : Int} (hx : s.ev x = .v (.int k a)) (hw : k2.wrap a = b) : Step P o (locO x) ⟨o.dst, .v (.int k2 b), []⟩ s :=
  step_value fun g σ f ac w hA hR => by
    subst hw
    have e1 := ev_v hR hA hx
    obtain ⟨d, hu, _⟩ := (ht T1 t1 h1).und
    have hi := (ht T2 t2 h2).it h3
    refine ⟨.int k2 (k2.wrap a), ?_, .v _⟩
    have : (convert T1 T2 (.int k a)).run P w = .ok (.int k2 (k2.wrap a)) w := by simp [convert, run_underlying hu, run_underlying hi, Conv.intToInt]
    simp [execOp, ho, e1, this]
/-- A loop of at most so many rounds. -/
def LoopN (P : Program) (c : Code) (Q : Exit → St → Prop) : Nat → St → Prop
  | 0, _ => False
  | n + 1, s => Cwp P c s (thenS (fun s' => LoopN P c Q n s') Q)
theorem cwp_loopN {c : Code} {Q : Exit → St → Prop} (n : Nat) (h : LoopN P c Q n s) : Cwp P (.loop c) s Q :=
  cwp_loop (fun n s => LoopN P c Q n s) h fun n s hI => by
    cases n with
    | zero => exact hI.elim
    | succ n =>
      refine cwp_mono hI fun e s' h => ?_
      cases e with
      | normal => exact ⟨n, Nat.lt_succ_self n, h⟩
      | _ => exact h
theorem loop_round {c : Code} {Q : Exit → St → Prop} {n : Nat} (h : Cwp P c s (thenS (fun s' => LoopN P c Q n s') Q)) : LoopN P c Q (n + 1) s := h
/-! ### Tables -/
theorem tab_cell {f : Fr} {g : Gh} {σ : St} {a : Act} {w : World} (h : Rel f g σ a w) {b k : Nat} {cs : Array Value} (hb : (b, cs) ∈ tabs) {v : Value} (hk : cs[k]? = some v) : w.cell? ⟨b, k, none⟩ = some v := by
  obtain ⟨_, cs', T, fr, h, h2⟩ := h.tb (b, cs) hb
  simp [World.cell?, h, h2 k v hk]
theorem w_load_tab (ht : Tab P tt) {T : TypeId} {x : Operand} (ho : o.op = .load T x) {t : TI} (h1 : tt T = some t) (h2 : t.row = false) {b k : Nat} {cs : Array Value} (hx : s.ev x = .v (.pointer (some ⟨b, k, none⟩))) (hb : (b, cs) ∈ tabs) {v : Value} (hk : cs[k]? = some v) : Step P o (locO x) ⟨o.dst, .v v, []⟩ s :=
  step_value fun g σ f ac w hA hR => by
    have e1 := ev_v hR hA hx
    obtain ⟨d, hu, hd⟩ := (ht T t h1).und
    refine ⟨v, ?_, .v _⟩
    have hc : w.cell? ⟨b, k, none⟩ = some v := tab_cell hR hb hk
    have hd' : d.isRow = false := by rw [hd, h2]
    simp only [execOp, ho, e1, isRow_load hu hd' _ _ w hc]
    simp [Sem.run_bind, isRow_load hu hd' _ _ w hc]
/-- An element of a table. -/
theorem w_index_tab {T : TypeId} {n e : Nat} (hT : P.underlying T = some (.array n e)) (he : (P.info? e).map (·.size) = some 1) {x y : Operand} (ho : o.op = .indexAddr T x y) {b : Nat} {k : IntKind} {i : Int} (hx : s.ev x = .v (.pointer (some ⟨b, 0, none⟩))) (hy : s.ev y = .v (.int k i)) (h0 : 0 ≤ i) (h1 : i < n) {q : Nat} (hq : i.toNat = q) :
    Step P o (locO x ++ locO y) ⟨o.dst, .v (.pointer (some ⟨b, q, none⟩)), []⟩ s :=
  step_value fun g σ f ac w hA hR => by
    subst hq
    have e1 := ev_v hR hA.left hx
    have e2 := ev_v hR hA.right hy
    refine ⟨_, ?_, .v _⟩
    obtain ⟨ie, hie, hs⟩ := Option.map_eq_some_iff.1 he
    have hsz : ∀ w : World, (sizeOf e).run P w = .ok 1 w := fun w => by simp [sizeOf, typeInfo, hie, hs]
    have h2 : i < (n : Int) := h1
    by_cases hz : i ≤ 0
    · obtain rfl : i = 0 := by omega
      simp [execOp, ho, e1, e2, Instr.indexAt, asIntOf, run_underlying hT, Instr.sureAddr, hsz, h2, Addr.add]
      intro hn
      omega
    · simp [execOp, ho, e1, e2, Instr.indexAt, asIntOf, run_underlying hT, Instr.sureAddr, hsz, h0, h2, Addr.add, hz]
end
end Go.Proofs.YtcbbpidnocgoiaaDoor.Eng
