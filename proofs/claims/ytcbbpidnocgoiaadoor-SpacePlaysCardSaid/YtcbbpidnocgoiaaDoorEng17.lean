/- Rows that are copied over others. -/
import Derived.Test.YtcbbpidnocgoiaaDoorEng16
import Derived.Laws.IdiomCopy
namespace Go.Proofs.YtcbbpidnocgoiaaDoor.Eng
open Go Go.RowKit
set_option linter.unusedVariables false
set_option linter.unusedSimpArgs false
section
variable {P : Program} {tt : Nat → Option TI} {o : Oper} {s : St}
theorem addr_add (b off j : Nat) : (⟨b, off, none⟩ : Addr).add j = ⟨b, off + j, none⟩ := by unfold Addr.add; split <;> simp_all
/-- All of a row of single cells over all of another one. -/
theorem w_copy_all (ht : Tab P tt) {x y : Operand} {T Ty e : TypeId} (ho : o.op = .call { callee := .builtin .copy, args := #[x, y], argTypes := #[T, Ty] }) {t : TI} (h1 : tt T = some t) (h2 : t.elem = some e) {u : TI} (h3 : tt e = some u) (hu : u.size = 1)
    {id len : Nat} {ob : Ob} (hx : s.ev x = .own id 0 len) (hob : s.obj id = .ob ob) (hfz : ob.fz = false) (hm : ob.m = 1) (hl : ob.rows.length = len)
    {id2 : Nat} {ob2 : Ob} (hy : s.ev y = .own id2 0 len) (hob2 : s.obj id2 = .ob ob2) (hm2 : ob2.m = 1) (hl2 : ob2.rows.length = len) (hone : (ob2.rows.all fun r => r.all SV.one) = true) :
    Step P o (locO x ++ locO y ++ [.obj id2] ++ [.obj id]) ⟨o.dst, .v (.int .i64 len), [(id, .ob ⟨1, ob2.rows, false⟩)]⟩ s := by
  intro f σ a w K Q hA hd ⟨g, hR⟩ hK
  have hob' : σ.obj id = .ob ob := by rw [agree_obj hA]; exact hob
  have hob2' : σ.obj id2 = .ob ob2 := by rw [agree_obj hA.left]; exact hob2
  have e1 := hR.ev x
  rw [ev_agree hA.left.left.left, hx] at e1
  have e2 := hR.ev y
  rw [ev_agree hA.left.left.right, hy] at e2
  obtain ⟨b2, vs, hb2, hvl, hrep, hcell⟩ := (hR.ob id2 ob2 hob2').cells 0 len (rows := ob2.rows) (by rw [List.drop_zero, List.take_of_length_le (by omega)]) hl2
  obtain ⟨⟨b', cs, T', fr, k1, k2, k3, k4, k5, k6⟩, k7⟩ := hR.ob id ob hob'
  rw [hm2, Nat.mul_one] at hvl
  rw [hm2] at hrep
  generalize hX : a.eval x = X at e1
  generalize hY : a.eval y = Y at e2
  cases e1 with
  | @own _ _ _ cap b cs1 T1 fr1 hb hlc hH hcap =>
    rw [k1] at hb
    obtain rfl := Option.some.inj hb
    cases e2 with
    | @own _ _ _ cap2 b2' cs2 T2 fr2 hb' hlc2 hH2 hcap2 =>
      rw [hb2] at hb'
      obtain rfl := Option.some.inj hb'
      have hsl := (ht T t h1).sl h2
      have hsz := (ht e u h3).sz
      rw [hu] at hsz
      have hk3 := k3.len
      rw [List.length_drop, Array.length_toList, hm, Nat.mul_one, hl] at hk3
      have hcs : cs.toList.length = cs.size := Array.length_toList
      have hc0 : g.o0 id + len ≤ cs.size := by
        rw [k2] at hH
        obtain ⟨rfl, _, _⟩ := Go.Obj.cells.inj (Option.some.inj hH)
        rw [k7, hm, Nat.mul_one] at hcap
        omega
      have hone' : ∀ v ∈ vs, v.oneCell' = true := RepR.one_all hrep (by rw [hvl, hl2, Nat.mul_one]) hone
      have hbound : ∀ j, j < vs.length → g.o0 id + j < cs.size := fun j hj => by omega
      have hrun := run_copy_cells (P := P) w T Ty o.type e b' (g.o0 id + 0 * g.mm id) len cap ⟨b2, g.o0 id2 + 0 * g.mm id2, none⟩ len cap2 vs hsl hsz (by rw [hvl]; simp)
        (fun j v hj => by rw [addr_add]; exact hcell j v hj)
        (fun j hj => by rw [cell_of k2, Nat.zero_mul, Nat.add_zero]; simpa using hbound j hj)
        (fun j hj => frozen_none k2 k4 _ (by have := hbound j hj; omega)) hone'
      obtain ⟨q1, q2, q3, q4, q5, q6⟩ := setCells_heap b' vs (g.o0 id + 0 * g.mm id) w cs T' fr k2
      unfold Oper.wp
      have hex : (execOp a.eval o).run P w = .ok (.value (.int .i64 len)) (w.setCells b' (g.o0 id + 0 * g.mm id) vs) := by
        rw [execOp_builtin ho]
        simp only [List.map_toArray, List.map_cons, List.map_nil, hX, hY]
        have := hrun
        rw [hvl] at this
        simp only [Nat.zero_mul, Nat.add_zero] at this ⊢
        simp [builtin, this, goInt]
      rw [hex, Oper.upon_value]
      refine hK _ _ ⟨g, ?_⟩
      have hT := hR.turn hob' hfz k1 k2 q1 (by simp [length_owr]) q2 q3 q4 q5 q6 ob2.rows (by
        rw [List.toList_toArray, drop_owr, Nat.zero_mul, owr_eq _ _ _ (by rw [List.length_drop]; omega), List.take_zero, List.nil_append, hm]
        exact hrep.more _)
      rw [hm] at hT
      exact Rel.put hT o.dst hd (.v _)
end
end Go.Proofs.YtcbbpidnocgoiaaDoor.Eng
