/- Regions, operation by operation. -/
import Derived.Test.YtcbbpidnocgoiaaDoorEng13
namespace Go.Proofs.YtcbbpidnocgoiaaDoor.Eng
open Go Go.RowKit
set_option linter.unusedVariables false
set_option linter.unusedSimpArgs false
inductive ChainL (P : Program) (ops : Array Oper) : List Oper → Nat → St → List (List Loc × Eff) → St → Prop where
  | nil {i : Nat} {s : St} : ChainL P ops [] i s [] s
  | cons {i : Nat} {o : Oper} {rest : List Oper} {s s' : St} {L : List Loc} {e : Eff} {l : List (List Loc × Eff)} (h : ops[i]? = some o → GStep P ops i L e s) (t : ChainL P ops rest (i + 1) (s.app e) l s') : ChainL P ops (o :: rest) i s ((L, e) :: l) s'
theorem ChainL.chain {P : Program} {ops : Array Oper} : ∀ {rest : List Oper} {i : Nat} {s s' : St} {l : List (List Loc × Eff)}, ChainL P ops rest i s l s' → ops.toList.drop i = rest → Chain P ops i s l s' ∧ l.length = rest.length
  | _, _, _, _, _, .nil, _ => ⟨.nil, rfl⟩
  | _, i, _, _, _, .cons (o := o) (rest := rest) h t, e => by
    have h0 : ops[i]? = some o := by
      have := congrArg (fun l => l[0]?) e
      simpa using this
    have h1 : ops.toList.drop (i + 1) = rest := by
      have := congrArg (fun l => l.drop 1) e
      simpa [List.drop_drop] using this
    obtain ⟨k1, k2⟩ := t.chain h1
    exact ⟨.cons (h h0) k1, by simp [k2]⟩
section
variable {P : Program} {ops : Array Oper} {o : Oper} {rest : List Oper} {i : Nat} {s s' : St} {L : List Loc} {v : SV} {ob : List (Nat × OS)} {l : List (List Loc × Eff)}
theorem ChainL.of (d : Option Nat) (hg : o.guard = none) (hd : o.dst = d) (h : Step P o L ⟨o.dst, v, ob⟩ s) (t : ChainL P ops rest (i + 1) (s.app ⟨d, v, ob⟩) l s') : ChainL P ops (o :: rest) i s ((L, ⟨d, v, ob⟩) :: l) s' := by
  subst hd
  exact .cons (fun hi => .of hi hg h) t
theorem ChainL.on (d : Option Nat) (j t0 : Nat) (b : Bool) (hg : o.guard = some (j, b)) (ht : (ops[j]?).bind (·.dst) = some t0) (hd : o.dst = d) (hs : s.slot t0 = .v (.bool b)) (h : Step P o L ⟨o.dst, v, ob⟩ s) (t : ChainL P ops rest (i + 1) (s.app ⟨d, v, ob⟩) l s') :
    ChainL P ops (o :: rest) i s ((.slot t0 :: L, ⟨d, v, ob⟩) :: l) s' := by
  subst hd
  exact .cons (fun hi => .guard hi hg ht hs h) t
theorem ChainL.off (d : Option Nat) (j t0 : Nat) (b : Bool) (hg : o.guard = some (j, b)) (ht : (ops[j]?).bind (·.dst) = some t0) (hd : o.dst = d) (hs : s.slot t0 = .v (.bool !b)) (t : ChainL P ops rest (i + 1) (s.app ⟨d, .v undef, []⟩) l s') :
    ChainL P ops (o :: rest) i s (([.slot t0], ⟨d, .v undef, []⟩) :: l) s' := by
  subst hd
  exact .cons (fun hi => .off hi hg ht hs (by simp)) t
variable {Q : Exit → St → Prop} {y : Code} {id : Nat}
theorem seq_region (hc : ChainL P ops ops.toList 0 s l s') (h : Cwp P y s' Q) : Cwp P (.seq (.region id ops false) y) s Q := by
  obtain ⟨k1, k2⟩ := hc.chain rfl
  exact cwp_seq (cwp_region k1 (by rw [k2]; simp) h)
theorem seq_region_draw (B : List Nat) (hm : P.follows .mixedOrders = true) (hc : ChainL P ops ops.toList 0 s l s') (hB : okTab ops B = true) (hI : indepOk B l = true) (h : Cwp P y s' Q) : Cwp P (.seq (.region id ops true) y) s Q := by
  obtain ⟨k1, k2⟩ := hc.chain rfl
  exact cwp_seq (cwp_region_draw B hm k1 (by rw [k2]; simp) hB hI h)
theorem one_region (hc : ChainL P ops ops.toList 0 s l s') (h : Q .normal s') : Cwp P (.region id ops false) s Q := by
  obtain ⟨k1, k2⟩ := hc.chain rfl
  exact cwp_region k1 (by rw [k2]; simp) h
theorem one_region_draw (B : List Nat) (hm : P.follows .mixedOrders = true) (hc : ChainL P ops ops.toList 0 s l s') (hB : okTab ops B = true) (hI : indepOk B l = true) (h : Q .normal s') : Cwp P (.region id ops true) s Q := by
  obtain ⟨k1, k2⟩ := hc.chain rfl
  exact cwp_region_draw B hm k1 (by rw [k2]; simp) hB hI h
theorem cond_t {c : Operand} {x y : Code} (hc : s.ev c = .v (.bool true)) (h : Cwp P x s Q) : Cwp P (.cond c x y) s Q := cwp_cond hc (fun _ => h) (fun e => by cases e)
theorem cond_f {c : Operand} {x y : Code} (hc : s.ev c = .v (.bool false)) (h : Cwp P y s Q) : Cwp P (.cond c x y) s Q := cwp_cond hc (fun e => by cases e) (fun _ => h)
/-- A way out of the code ahead of what comes. -/
theorem seq_cond_t {c : Operand} {x z y : Code} (hc : s.ev c = .v (.bool true)) (h : Cwp P x s (thenS (fun s' => Cwp P y s' Q) Q)) : Cwp P (.seq (.cond c x z) y) s Q := cwp_seq (cond_t hc h)
theorem seq_cond_f {c : Operand} {x z y : Code} (hc : s.ev c = .v (.bool false)) (h : Cwp P z s (thenS (fun s' => Cwp P y s' Q) Q)) : Cwp P (.seq (.cond c x z) y) s Q := cwp_seq (cond_f hc h)
theorem seq_cond_skip {c : Operand} {x y : Code} (hc : s.ev c = .v (.bool false)) (h : Cwp P y s Q) : Cwp P (.seq (.cond c x .skip) y) s Q := cwp_seq (cond_f hc (cwp_skip h))
theorem seq_skip {y : Code} (h : Cwp P y s Q) : Cwp P (.seq .skip y) s Q := cwp_seq (cwp_skip h)
theorem seq_ret {y : Code} (h : Q .ret s) : Cwp P (.seq .ret y) s Q := cwp_seq (cwp_ret h)
end
end Go.Proofs.YtcbbpidnocgoiaaDoor.Eng
