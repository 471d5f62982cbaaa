/- Texts of this claim, put together: part 7. -/
import Derived.Test.YtpkgikchphgfaaaMiF
/- The references' parser: statements within statements, as what they come to. -/
namespace Go.Proofs.Ytpkgikchphgfaaa.Fl
open Go Go.RowKit Go.Proofs.Ytpkgikchphgfaaa.Eng
set_option linter.unusedVariables false
set_option linter.unusedSimpArgs false
set_option maxRecDepth 20000
def PS.up (p : PS) : PS := { p with Deep := IntKind.i64.wrap (p.Deep + 1) }
def PS.dn (p : PS) : PS := { p with Deep := IntKind.i64.wrap (p.Deep - 1) }
def PS.mm (p : PS) : PS := { p with Many := IntKind.i64.wrap (p.Many + 1) }
theorem PS.Ok.up {p : PS} (h : p.Ok) : p.up.Ok := ⟨h.len, h.last, h.here⟩
theorem PS.Ok.dn {p : PS} (h : p.Ok) : p.dn.Ok := ⟨h.len, h.last, h.here⟩
theorem PS.Ok.mm {p : PS} (h : p.Ok) : p.mm.Ok := ⟨h.len, h.last, h.here⟩
def blockW (stm : PS → PS × List R114) (p : PS) : PS × List R114 := ((stm ((p.must ⟨#[123]⟩).most (p.must ⟨#[123]⟩).Deep 64).up).1.dn, (stm ((p.must ⟨#[123]⟩).most (p.must ⟨#[123]⟩).Deep 64).up).2)
def stmtsL (st : PS → PS × R114) : Nat → PS → List R114 → PS × List R114
  | 0, q, out => (q, out)
  | N + 1, q, out => cond (decide (q.Code = 0)) (cond (!q.is ⟨#[125]⟩) (stmtsL st N (st (q.most q.Many 2048).mm).1 (out ++ [(st (q.most q.Many 2048).mm).2])) (q, out)) (q, out)
def stmtsW (st : PS → PS × R114) (p : PS) : PS × List R114 := (cond (decide ((stmtsL st (p.left + 1) p []).1.Code = 0)) (stmtsL st (p.left + 1) p []).1.next (stmtsL st (p.left + 1) p []).1, (stmtsL st (p.left + 1) p []).2)
def bIf : ByteArray := ⟨#[105, 102]⟩
def bElse : ByteArray := ⟨#[101, 108, 115, 101]⟩
def bWhile : ByteArray := ⟨#[119, 104, 105, 108, 101]⟩
def bLock : ByteArray := ⟨#[108, 111, 99, 107]⟩
def bUnlock : ByteArray := ⟨#[117, 110, 108, 111, 99, 107]⟩
def bReturn : ByteArray := ⟨#[114, 101, 116, 117, 114, 110]⟩
def bSkip : ByteArray := ⟨#[115, 107, 105, 112]⟩
def bSemi : ByteArray := ⟨#[59]⟩
def ifW (blk : PS → PS × List R114) (a : Int) (p : PS) (s : ByteArray) : PS × R114 := cond ((blk p).1.is bElse) ((blk (blk p).1.next).1, .mk 4 a bz bz s e0x (blk p).2 (blk (blk p).1.next).2) ((blk p).1, .mk 4 a bz bz s e0x (blk p).2 [])
def stmtW (blk : PS → PS × List R114) (p : PS) : PS × R114 :=
  cond (!p.is bIf) (cond (!p.is bWhile) (cond (!p.is bLock) (cond (!p.is bUnlock)
    (cond (p.is bReturn) (cond (!p.next.is bSemi) (p.next.name.1.must bSemi, .mk 10 p.now.At bz bz p.next.name.2 e0x [] []) (p.next.must bSemi, .mk 10 p.now.At bz bz bz e0x [] []))
      (cond (p.is bSkip) (p.next.must bSemi, .mk 11 p.now.At bz bz bz e0x [] []) ((p.sets p.now.At).1.must bSemi, (p.sets p.now.At).2)))
    (p.next.name.1.must bSemi, .mk 7 p.now.At bz bz p.next.name.2 e0x [] []))
    (p.next.name.1.must bSemi, .mk 6 p.now.At bz bz p.next.name.2 e0x [] []))
    ((blk p.next.name.1).1, .mk 5 p.now.At bz bz p.next.name.2 e0x (blk p.next.name.1).2 []))
    (ifW blk p.now.At p.next.name.1 p.next.name.2)
def blockN : Nat → PS → PS × List R114
  | 0, p => (p, [])
  | N + 1, p => blockW (stmtsW (stmtW (blockN N))) p
def PS.block (p : PS) : PS × List R114 := blockN (p.left + 1) p
def PS.stmt (p : PS) : PS × R114 := stmtW PS.block p
def PS.stmts (p : PS) : PS × List R114 := stmtsW PS.stmt p
noncomputable def sBlockLt (n : Nat) : Spc U := .of dP (fun p => p.Ok ∧ p.left < n) (fun _ => []) fun p => .tup [p.block.1.tv, .lst .t114 p.block.2]
noncomputable def sStmtsLt (n : Nat) : Spc U := .of dP (fun p => p.Ok ∧ p.left < n) (fun _ => []) fun p => .tup [p.stmts.1.tv, .lst .t114 p.stmts.2]
noncomputable def sStmtLt (n : Nat) : Spc U := .of dP (fun p => p.Ok ∧ p.left < n) (fun _ => []) fun p => .tup [p.stmt.1.tv, stV p.stmt.2]
noncomputable def Ei (n : Nat) : FuncId → Option (Spc U)
  | 97 => some (sStmtsLt n)
  | f => Ed f
noncomputable def Ej (n : Nat) : FuncId → Option (Spc U)
  | 133 => some (sStmtLt n)
  | f => Ed f
noncomputable def Ek (n : Nat) : FuncId → Option (Spc U)
  | 157 => some (sBlockLt n)
  | 158 => some sSets
  | f => Ed f
theorem Ei_ok {n : Nat} (h0 : SpecOk Try.prog 97 (sStmtsLt n)) : ∀ f S, Ei n f = some S → SpecOk Try.prog f S := fun f S h => by
  unfold Ei at h
  split at h
  · cases h; exact h0
  · exact Ed_ok _ _ h
theorem Ej_ok {n : Nat} (h0 : SpecOk Try.prog 133 (sStmtLt n)) : ∀ f S, Ej n f = some S → SpecOk Try.prog f S := fun f S h => by
  unfold Ej at h
  split at h
  · cases h; exact h0
  · exact Ed_ok _ _ h
def an76 : Ann := ⟨fun | 0 => 254 | _ => 0, fun | 0 => 30 | _ => 0, fun _ => [], false⟩
theorem Ek_ok {n : Nat} (h0 : SpecOk Try.prog 157 (sBlockLt n)) : ∀ f S, Ek n f = some S → SpecOk Try.prog f S := fun f S h => by
  unfold Ek at h
  split at h
  · cases h; exact h0
  · cases h; exact sSets_ok
  · exact Ed_ok _ _ h
def an65 : Ann := ⟨fun | 0 => 52 | _ => 0, fun | 0 => 60 | _ => 0, fun _ => [], false⟩
noncomputable def lp76 {n : Nat} (h0 : SpecOk Try.prog 157 (sBlockLt n)) : Lp U := lpL [(0, LC.unr (X := X) (Ek_ok h0) an76 Try.f133 0 5)]
theorem lp76_ok {n : Nat} (h0 : SpecOk Try.prog 157 (sBlockLt n)) : ∀ c, Try.f133.body = some c → LpOk X (Ek n) an76 (lp76 h0) (loops c 0) := lpL_ok (by kernel_rfl) fun b L hm st p hs => by
  cases hm with
  | head => exact unr_ok (by kernel_rfl) hs
  | tail _ h => cases h
theorem e80 (n : Nat) (p : PS) : (evFn X (Ei n) an0 lp0 Try.f157 [] [p.tv] fun (o : List (TO X.U)) (v : TV X.U) =>
  some (o, v)) =
  if p.Ok then
  if (p.must (⟨#[123]⟩ : ByteArray)).Ok then
    if
        ((p.must (⟨#[123]⟩ : ByteArray)).most (p.must (⟨#[123]⟩ : ByteArray)).Deep 64).up.Ok ∧
          ((p.must (⟨#[123]⟩ : ByteArray)).most (p.must (⟨#[123]⟩ : ByteArray)).Deep 64).up.left < n then
      some
        ([],
          TV.tup
            [((p.must (⟨#[123]⟩ : ByteArray)).most (p.must (⟨#[123]⟩ : ByteArray)).Deep 64).up.stmts.fst.dn.tv,
              TV.lst C.t114 ((p.must (⟨#[123]⟩ : ByteArray)).most (p.must (⟨#[123]⟩ : ByteArray)).Deep 64).up.stmts.snd])
    else none
  else none
else none := by kernel_rfl
def S65 (q : PS) (out : List R114) : TS U := mkS 45 [(2, .ref 0 0 0), (4, .ref 1 0 0), (5, .full 2)] [ob0, q.ob, .row .t114 out false] 0
theorem r65 (n : Nat) (lp : Lp
  U) (N : Nat) (q : PS) (out : List R114) : (fnLoop X (Ej n) an65 lp Try.f97 0 N.succ (S65 q out)) =
  bif decide (q.Code = 0) then
  if q.Ok then
    bif !q.is (⟨#[125]⟩ : ByteArray) then
      if q.Ok then
        if (q.most q.Many 2048).mm.Ok ∧ (q.most q.Many 2048).mm.left < n then
          if (out.length + 1) * 192 ≤ 140737488355328 then
            fnLoop X (Ej n) an65 lp Try.f97 0 N
              (S65 (q.most q.Many 2048).mm.stmt.fst
                (out ++
                  [R114.mk (q.most q.Many 2048).mm.stmt.snd.Kind (q.most q.Many 2048).mm.stmt.snd.At
                      (q.most q.Many 2048).mm.stmt.snd.To (q.most q.Many 2048).mm.stmt.snd.Field
                      (q.most q.Many 2048).mm.stmt.snd.From (q.most q.Many 2048).mm.stmt.snd.Expr
                      (q.most q.Many 2048).mm.stmt.snd.Body (q.most q.Many 2048).mm.stmt.snd.Else]))
          else none
        else none
      else none
    else some (Exit.exit 0, S65 q out)
  else none
else some (Exit.exit 0, S65 q out) := by kernel_rfl
theorem e76 (n : Nat) (h0 : SpecOk Try.prog 157
  (sBlockLt
    n)) (p : PS) : (evFn X (Ek n) an76 (lp76 h0) Try.f133 [] [p.tv] fun (o : List (TO X.U)) (v : TV X.U) =>
  some (o, wkS.f v)) =
  if p.Ok then
  if p.Ok then
    bif !p.is (⟨#[105, 102]⟩ : ByteArray) then
      if p.Ok then
        bif !p.is (⟨#[119, 104, 105, 108, 101]⟩ : ByteArray) then
          if p.Ok then
            bif !p.is (⟨#[108, 111, 99, 107]⟩ : ByteArray) then
              if p.Ok then
                bif !p.is (⟨#[117, 110, 108, 111, 99, 107]⟩ : ByteArray) then
                  if p.Ok then
                    bif p.is (⟨#[114, 101, 116, 117, 114, 110]⟩ : ByteArray) then
                      if p.Ok then
                        if p.next.Ok then
                          bif !p.next.is (⟨#[59]⟩ : ByteArray) then
                            if p.next.Ok then
                              if p.next.name.fst.Ok then
                                some
                                  ([],
                                    TV.tup
                                      [(p.next.name.fst.must (⟨#[59]⟩ : ByteArray)).tv,
                                        TV.agg
                                          [TV.v (Value.int IntKind.i64 10), TV.v (Value.int IntKind.i64 p.now.At),
                                            TV.v (Value.string (⟨#[]⟩ : ByteArray)), TV.v (Value.string (⟨#[]⟩ : ByteArray)),
                                            TV.v (Value.string p.next.name.snd), TV.v (Value.int IntKind.i64 0),
                                            TV.v (Value.string (⟨#[]⟩ : ByteArray)), TV.v (Value.string (⟨#[]⟩ : ByteArray)),
                                            TV.v (Value.int IntKind.i64 0), TV.v (Value.int IntKind.i64 0),
                                            TV.lst C.str [], TV.lst C.t114 [], TV.lst C.t114 []]])
                              else none
                            else none
                          else
                            if p.next.Ok then
                              some
                                ([],
                                  TV.tup
                                    [(p.next.must (⟨#[59]⟩ : ByteArray)).tv,
                                      TV.agg
                                        [TV.v (Value.int IntKind.i64 10), TV.v (Value.int IntKind.i64 p.now.At),
                                          TV.v (Value.string (⟨#[]⟩ : ByteArray)), TV.v (Value.string (⟨#[]⟩ : ByteArray)),
                                          TV.v (Value.string (⟨#[]⟩ : ByteArray)), TV.v (Value.int IntKind.i64 0),
                                          TV.v (Value.string (⟨#[]⟩ : ByteArray)), TV.v (Value.string (⟨#[]⟩ : ByteArray)),
                                          TV.v (Value.int IntKind.i64 0), TV.v (Value.int IntKind.i64 0),
                                          TV.lst C.str [], TV.lst C.t114 [], TV.lst C.t114 []]])
                            else none
                        else none
                      else none
                    else
                      if p.Ok then
                        bif p.is (⟨#[115, 107, 105, 112]⟩ : ByteArray) then
                          if p.Ok then
                            if p.next.Ok then
                              some
                                ([],
                                  TV.tup
                                    [(p.next.must (⟨#[59]⟩ : ByteArray)).tv,
                                      TV.agg
                                        [TV.v (Value.int IntKind.i64 11), TV.v (Value.int IntKind.i64 p.now.At),
                                          TV.v (Value.string (⟨#[]⟩ : ByteArray)), TV.v (Value.string (⟨#[]⟩ : ByteArray)),
                                          TV.v (Value.string (⟨#[]⟩ : ByteArray)), TV.v (Value.int IntKind.i64 0),
                                          TV.v (Value.string (⟨#[]⟩ : ByteArray)), TV.v (Value.string (⟨#[]⟩ : ByteArray)),
                                          TV.v (Value.int IntKind.i64 0), TV.v (Value.int IntKind.i64 0),
                                          TV.lst C.str [], TV.lst C.t114 [], TV.lst C.t114 []]])
                            else none
                          else none
                        else
                          if
                              p.Ok ∧
                                Z0 0 (⟨#[]⟩ : ByteArray) (⟨#[]⟩ : ByteArray) (⟨#[]⟩ : ByteArray) 0 (⟨#[]⟩ : ByteArray) (⟨#[]⟩ : ByteArray) 0
                                  0 then
                            if (p.sets p.now.At).fst.Ok then
                              some
                                ([],
                                  TV.tup
                                    [((p.sets p.now.At).fst.must (⟨#[59]⟩ : ByteArray)).tv,
                                      TV.agg
                                        [TV.v (Value.int IntKind.i64 (p.sets p.now.At).snd.Kind),
                                          TV.v (Value.int IntKind.i64 (p.sets p.now.At).snd.At),
                                          TV.v (Value.string (p.sets p.now.At).snd.To),
                                          TV.v (Value.string (p.sets p.now.At).snd.Field),
                                          TV.v (Value.string (p.sets p.now.At).snd.From),
                                          TV.v (Value.int IntKind.i64 (p.sets p.now.At).snd.Expr.Kind),
                                          TV.v (Value.string (p.sets p.now.At).snd.Expr.A),
                                          TV.v (Value.string (p.sets p.now.At).snd.Expr.B),
                                          TV.v (Value.int IntKind.i64 (p.sets p.now.At).snd.Expr.Op),
                                          TV.v (Value.int IntKind.i64 (p.sets p.now.At).snd.Expr.N),
                                          TV.lst C.str (p.sets p.now.At).snd.Expr.Args,
                                          TV.lst C.t114 (p.sets p.now.At).snd.Body,
                                          TV.lst C.t114 (p.sets p.now.At).snd.Else]])
                            else none
                          else none
                      else none
                  else none
                else
                  if p.Ok then
                    if p.next.Ok then
                      if p.next.name.fst.Ok then
                        some
                          ([],
                            TV.tup
                              [(p.next.name.fst.must (⟨#[59]⟩ : ByteArray)).tv,
                                TV.agg
                                  [TV.v (Value.int IntKind.i64 7), TV.v (Value.int IntKind.i64 p.now.At),
                                    TV.v (Value.string (⟨#[]⟩ : ByteArray)), TV.v (Value.string (⟨#[]⟩ : ByteArray)),
                                    TV.v (Value.string p.next.name.snd), TV.v (Value.int IntKind.i64 0),
                                    TV.v (Value.string (⟨#[]⟩ : ByteArray)), TV.v (Value.string (⟨#[]⟩ : ByteArray)),
                                    TV.v (Value.int IntKind.i64 0), TV.v (Value.int IntKind.i64 0), TV.lst C.str [],
                                    TV.lst C.t114 [], TV.lst C.t114 []]])
                      else none
                    else none
                  else none
              else none
            else
              if p.Ok then
                if p.next.Ok then
                  if p.next.name.fst.Ok then
                    some
                      ([],
                        TV.tup
                          [(p.next.name.fst.must (⟨#[59]⟩ : ByteArray)).tv,
                            TV.agg
                              [TV.v (Value.int IntKind.i64 6), TV.v (Value.int IntKind.i64 p.now.At),
                                TV.v (Value.string (⟨#[]⟩ : ByteArray)), TV.v (Value.string (⟨#[]⟩ : ByteArray)),
                                TV.v (Value.string p.next.name.snd), TV.v (Value.int IntKind.i64 0),
                                TV.v (Value.string (⟨#[]⟩ : ByteArray)), TV.v (Value.string (⟨#[]⟩ : ByteArray)),
                                TV.v (Value.int IntKind.i64 0), TV.v (Value.int IntKind.i64 0), TV.lst C.str [],
                                TV.lst C.t114 [], TV.lst C.t114 []]])
                  else none
                else none
              else none
          else none
        else
          if p.Ok then
            if p.next.Ok then
              if p.next.name.fst.Ok ∧ p.next.name.fst.left < n then
                some
                  ([],
                    TV.tup
                      [p.next.name.fst.block.fst.tv,
                        TV.agg
                          [TV.v (Value.int IntKind.i64 5), TV.v (Value.int IntKind.i64 p.now.At),
                            TV.v (Value.string (⟨#[]⟩ : ByteArray)), TV.v (Value.string (⟨#[]⟩ : ByteArray)),
                            TV.v (Value.string p.next.name.snd), TV.v (Value.int IntKind.i64 0),
                            TV.v (Value.string (⟨#[]⟩ : ByteArray)), TV.v (Value.string (⟨#[]⟩ : ByteArray)),
                            TV.v (Value.int IntKind.i64 0), TV.v (Value.int IntKind.i64 0), TV.lst C.str [],
                            TV.lst C.t114 p.next.name.fst.block.snd, TV.lst C.t114 []]])
              else none
            else none
          else none
      else none
    else
      if p.Ok then
        if p.next.Ok then
          if p.next.name.fst.Ok ∧ p.next.name.fst.left < n then
            if p.next.name.fst.block.fst.Ok then
              bif p.next.name.fst.block.fst.is (⟨#[101, 108, 115, 101]⟩ : ByteArray) then
                if p.next.name.fst.block.fst.Ok then
                  if p.next.name.fst.block.fst.next.Ok ∧ p.next.name.fst.block.fst.next.left < n then
                    some
                      ([],
                        TV.tup
                          [p.next.name.fst.block.fst.next.block.fst.tv,
                            TV.agg
                              [TV.v (Value.int IntKind.i64 4), TV.v (Value.int IntKind.i64 p.now.At),
                                TV.v (Value.string (⟨#[]⟩ : ByteArray)), TV.v (Value.string (⟨#[]⟩ : ByteArray)),
                                TV.v (Value.string p.next.name.snd), TV.v (Value.int IntKind.i64 0),
                                TV.v (Value.string (⟨#[]⟩ : ByteArray)), TV.v (Value.string (⟨#[]⟩ : ByteArray)),
                                TV.v (Value.int IntKind.i64 0), TV.v (Value.int IntKind.i64 0), TV.lst C.str [],
                                TV.lst C.t114 p.next.name.fst.block.snd,
                                TV.lst C.t114 p.next.name.fst.block.fst.next.block.snd]])
                  else none
                else none
              else
                some
                  ([],
                    TV.tup
                      [p.next.name.fst.block.fst.tv,
                        TV.agg
                          [TV.v (Value.int IntKind.i64 4), TV.v (Value.int IntKind.i64 p.now.At),
                            TV.v (Value.string (⟨#[]⟩ : ByteArray)), TV.v (Value.string (⟨#[]⟩ : ByteArray)),
                            TV.v (Value.string p.next.name.snd), TV.v (Value.int IntKind.i64 0),
                            TV.v (Value.string (⟨#[]⟩ : ByteArray)), TV.v (Value.string (⟨#[]⟩ : ByteArray)),
                            TV.v (Value.int IntKind.i64 0), TV.v (Value.int IntKind.i64 0), TV.lst C.str [],
                            TV.lst C.t114 p.next.name.fst.block.snd, TV.lst C.t114 []]])
            else none
          else none
        else none
      else none
  else none
else none := by kernel_rfl
end Go.Proofs.Ytpkgikchphgfaaa.Fl

/- The references' parser: statements within statements end. -/
namespace Go.Proofs.Ytpkgikchphgfaaa.Fl
open Go Go.RowKit Go.Proofs.Ytpkgikchphgfaaa.Eng
set_option linter.unusedVariables false
set_option linter.unusedSimpArgs false
set_option maxRecDepth 20000
theorem PS.is_code {p : PS} {s : ByteArray} (h : p.is s = true) : p.Code = 0 := by
  have h1 := PS.is_kind h
  by_cases hc : p.Code = 0
  · exact hc
  · exact absurd (by unfold PS.now; rw [if_neg hc]; rfl) h1
theorem PS.Ok.is_pos {p : PS} (h : p.Ok) {s : ByteArray} (hs : p.is s = true) : 1 ≤ p.left := h.left_pos (PS.is_code hs)
def BOk (b : PS → PS × List R114) (q : PS) : Prop := (b q).1.Ok ∧ cntL (b q).2 + (b q).1.left ≤ q.left - 1
def SOk (b : PS → PS × R114) (q : PS) : Prop := (b q).1.Ok ∧ cntS (b q).2 + (b q).1.left ≤ 1 + (q.left - 1)
def SsOk (b : PS → PS × List R114) (q : PS) : Prop := (b q).1.Ok ∧ cntL (b q).2 + (b q).1.left ≤ q.left
def Ag (m : Nat) (b1 b2 : PS → PS × List R114) : Prop := ∀ q : PS, q.Ok → q.left < m → b1 q = b2 q ∧ BOk b1 q
def AgS (m : Nat) (b1 b2 : PS → PS × R114) : Prop := ∀ q : PS, q.Ok → q.left ≤ m → b1 q = b2 q ∧ SOk b1 q
theorem stmtW_ag {b1 b2 : PS → PS × List R114} {p : PS} (h : p.Ok) (ha : Ag p.left b1 b2) : stmtW b1 p = stmtW b2 p ∧ SOk (stmtW b1) p := by
  unfold SOk stmtW
  cases h1 : p.is bIf with
  | true =>
    have hpos := h.is_pos h1
    have hl := h.next_lt (PS.is_kind h1)
    have hm := h.next.name_lt
    obtain ⟨e1, o1, c1⟩ := ha p.next.name.1 h.next.name (by omega)
    simp only [Bool.not_true, cond_false]
    unfold ifW
    rw [← e1]
    cases h2 : (b1 p.next.name.1).1.is bElse with
    | true =>
      have hn := o1.next_lt (PS.is_kind h2)
      have hn2 := o1.is_pos h2
      obtain ⟨e3, o3, c3⟩ := ha (b1 p.next.name.1).1.next o1.next (by omega)
      rw [← e3]
      simp only [cond_true]
      refine ⟨by trivial, o3, ?_⟩
      simp only [cntS, e0x, List.length_nil]
      omega
    | false =>
      simp only [cond_false]
      refine ⟨by trivial, o1, ?_⟩
      simp only [cntS, cntL, e0x, List.length_nil]
      omega
  | false =>
    simp only [Bool.not_false, cond_true]
    cases h2 : p.is bWhile with
    | true =>
      have hpos := h.is_pos h2
      have hl := h.next_lt (PS.is_kind h2)
      have hm := h.next.name_lt
      obtain ⟨e1, o1, c1⟩ := ha p.next.name.1 h.next.name (by omega)
      simp only [Bool.not_true, cond_false]
      rw [← e1]
      refine ⟨by trivial, o1, ?_⟩
      simp only [cntS, cntL, e0x, List.length_nil]
      omega
    | false =>
      have g1 := p.next_left
      have g2 := h.next.name_lt
      have g3 := h.next.name.must_lt bSemi
      have g4 := h.next.must_lt bSemi
      have g5 := (h.sets p.now.At).1.must_lt bSemi
      have g6 := h.sets_cnt p.now.At
      have g7 := h.sets p.now.At
      simp only [Bool.not_false, cond_true]
      simp only [Bool.cond_eq_ite]
      refine ⟨by trivial, ?_, ?_⟩
      · repeat' split
        all_goals first | exact h.next.name.must _ | exact h.next.must _ | exact g7.1.must _
      · repeat' split
        all_goals try simp only [cntS, cntL, e0x, List.length_nil]
        all_goals omega
theorem stmtsL_ag {m : Nat} {s1 s2 : PS → PS × R114} (ha : AgS m s1 s2) : ∀ (N : Nat) (q : PS) (out : List R114), q.Ok → q.left ≤ m →
    stmtsL s1 N q out = stmtsL s2 N q out ∧ (stmtsL s1 N q out).1.Ok ∧ cntL (stmtsL s1 N q out).2 + (stmtsL s1 N q out).1.left ≤ cntL out + q.left := by
  intro N
  induction N with
  | zero => intro q out h hl; exact ⟨rfl, h, Nat.le_refl _⟩
  | succ N ih =>
    intro q out h hl
    unfold stmtsL
    by_cases hc : q.Code = 0
    · rw [decide_eq_true hc]
      have hpos := h.left_pos hc
      cases q.is ⟨#[125]⟩ with
      | true => exact ⟨rfl, h, Nat.le_refl _⟩
      | false =>
        simp only [Bool.not_false, cond_true]
        have h2 := (h.most q.Many 2048).mm
        have h3 : (q.most q.Many 2048).mm.left ≤ q.left := q.most_left q.Many 2048
        obtain ⟨e1, o1, c1⟩ := ha _ h2 (by omega)
        rw [← e1]
        obtain ⟨e, o, c⟩ := ih (s1 (q.most q.Many 2048).mm).1 (out ++ [(s1 (q.most q.Many 2048).mm).2]) o1 (by omega)
        refine ⟨e, o, ?_⟩
        rw [cntL_append, cntL_one] at c
        omega
    · rw [decide_eq_false hc]
      exact ⟨rfl, h, Nat.le_refl _⟩
theorem stmtsW_ag {s1 s2 : PS → PS × R114} {p : PS} (h : p.Ok) (ha : AgS p.left s1 s2) : stmtsW s1 p = stmtsW s2 p ∧ SsOk (stmtsW s1) p := by
  obtain ⟨e, o, c⟩ := stmtsL_ag ha (p.left + 1) p [] h (Nat.le_refl _)
  unfold SsOk stmtsW
  rw [← e]
  have hn := (stmtsL s1 (p.left + 1) p []).1.next_left
  rw [cntL, Nat.zero_add] at c
  refine ⟨rfl, ?_⟩
  cases decide ((stmtsL s1 (p.left + 1) p []).1.Code = 0) with
  | true => exact ⟨o.next, by simp only [cond_true]; omega⟩
  | false => exact ⟨o, c⟩
theorem blockW_ag {b1 b2 : PS → PS × List R114} {p : PS} (h : p.Ok) (ha : Ag (p.left - 1 + 0) b1 b2) : blockW (stmtsW (stmtW b1)) p = blockW (stmtsW (stmtW b2)) p ∧ BOk (blockW (stmtsW (stmtW b1))) p := by
  have h1 := (h.must ⟨#[123]⟩).most (p.must ⟨#[123]⟩).Deep 64
  have h2 := h.must_lt ⟨#[123]⟩
  have h3 := (p.must ⟨#[123]⟩).most_left (p.must ⟨#[123]⟩).Deep 64
  have h4 : ((p.must ⟨#[123]⟩).most (p.must ⟨#[123]⟩).Deep 64).up.left = ((p.must ⟨#[123]⟩).most (p.must ⟨#[123]⟩).Deep 64).left := rfl
  have hs : AgS ((p.must ⟨#[123]⟩).most (p.must ⟨#[123]⟩).Deep 64).up.left (stmtW b1) (stmtW b2) := fun q hq hl => stmtW_ag hq fun r hr hrl => ha r hr (by omega)
  obtain ⟨e, o, c⟩ := stmtsW_ag h1.up hs
  unfold BOk blockW
  rw [← e]
  refine ⟨rfl, o.dn, ?_⟩
  have h5 : (stmtsW (stmtW b1) ((p.must ⟨#[123]⟩).most (p.must ⟨#[123]⟩).Deep 64).up).1.dn.left = (stmtsW (stmtW b1) ((p.must ⟨#[123]⟩).most (p.must ⟨#[123]⟩).Deep 64).up).1.left := rfl
  dsimp only
  omega
theorem block_st : ∀ (m : Nat) (q : PS), q.Ok → q.left ≤ m → ∀ N M : Nat, q.left < N → q.left < M → blockN N q = blockN M q ∧ BOk (blockN N) q := by
  intro m
  induction m with
  | zero =>
    intro q h hl N M hN hM
    obtain ⟨N, rfl⟩ : ∃ k, N = k + 1 := ⟨N - 1, by omega⟩
    obtain ⟨M, rfl⟩ : ∃ k, M = k + 1 := ⟨M - 1, by omega⟩
    exact blockW_ag h fun r hr hrl => by omega
  | succ m ih =>
    intro q h hl N M hN hM
    obtain ⟨N, rfl⟩ : ∃ k, N = k + 1 := ⟨N - 1, by omega⟩
    obtain ⟨M, rfl⟩ : ∃ k, M = k + 1 := ⟨M - 1, by omega⟩
    exact blockW_ag h fun r hr hrl => ih r hr (by omega) N M (by omega) (by omega)
theorem PS.Ok.block_eq {p : PS} (h : p.Ok) : p.block = blockW PS.stmts p := by
  show blockW (stmtsW (stmtW (blockN p.left))) p = blockW (stmtsW (stmtW PS.block)) p
  refine (blockW_ag h fun r hr hrl => ?_).1
  exact block_st r.left r hr (Nat.le_refl _) p.left (r.left + 1) (by omega) (Nat.lt_succ_self _)
theorem PS.Ok.block_ok {p : PS} (h : p.Ok) : BOk PS.block p := (block_st p.left p h (Nat.le_refl _) (p.left + 1) (p.left + 1) (Nat.lt_succ_self _) (Nat.lt_succ_self _)).2
theorem PS.Ok.stmt_ok {p : PS} (h : p.Ok) : SOk PS.stmt p := (stmtW_ag h fun q hq hl => ⟨rfl, hq.block_ok⟩).2
theorem PS.Ok.stmts_ok {p : PS} (h : p.Ok) : SsOk PS.stmts p := (stmtsW_ag h fun q hq hl => ⟨rfl, hq.stmt_ok⟩).2
end Go.Proofs.Ytpkgikchphgfaaa.Fl

/- The references' parser: statements within statements, proved. -/
namespace Go.Proofs.Ytpkgikchphgfaaa.Fl
open Go Go.RowKit Go.Proofs.Ytpkgikchphgfaaa.Eng
set_option linter.unusedVariables false
set_option linter.unusedSimpArgs false
set_option maxRecDepth 20000
theorem eta114 (s : R114) : R114.mk s.Kind s.At s.To s.Field s.From s.Expr s.Body s.Else = s := by cases s; rfl
theorem PS.Ok.stmt_lt {p : PS} (h : p.Ok) : p.stmt.1.left ≤ p.left - 1 := by
  have h1 := h.stmt_ok.2
  have h2 : 1 ≤ cntS p.stmt.2 := by cases p.stmt.2; rw [cntS]; omega
  omega
theorem rounds65 {n : Nat} (lp : Lp U) : ∀ (N : Nat) (q : PS) (out : List R114), q.Ok → q.left ≤ N → q.left < n → out.length + N ≤ 2000000 →
    fnLoop X (Ej n) an65 lp Try.f97 0 (N + 1) (S65 q out) = some (.exit 0, S65 (stmtsL PS.stmt (N + 1) q out).1 (stmtsL PS.stmt (N + 1) q out).2) := by
  intro N
  induction N with
  | zero =>
    intro q out h hl hn ho
    have hc := h.left_zero (by omega)
    rw [r65, stmtsL, decide_eq_false hc]
    rfl
  | succ N ih =>
    intro q out h hl hn ho
    rw [r65, stmtsL]
    by_cases hc : q.Code = 0
    · rw [decide_eq_true hc, if_pos h]
      have hpos := h.left_pos hc
      cases q.is ⟨#[125]⟩ with
      | true => rfl
      | false =>
        have h1 := (h.most q.Many 2048).mm
        have h2 : (q.most q.Many 2048).mm.left ≤ q.left := q.most_left q.Many 2048
        have h3 := h1.stmt_lt
        have hlen : (out.length + 1) * 192 ≤ 140737488355328 := by omega
        have h4 : (q.most q.Many 2048).mm.Ok ∧ (q.most q.Many 2048).mm.left < n := ⟨h1, by omega⟩
        simp only [Bool.not_false, cond_true, if_pos h, if_pos h4, if_pos hlen, eta114]
        exact ih _ _ h1.stmt_ok.1 (by omega) (by omega) (by rw [List.length_append]; simp only [List.length_singleton]; omega)
    · rw [decide_eq_false hc]
      rfl
def dl65 (s : TS U) : Option (Int × Int × Int × Int × Int × PS × List R114) := match told s 45 [2, 4, 5] 0, s.objs with
  | some [a0, a1, a2], [o0, o1, o2] =>
    match o0 with
    | .cells [q0, q1, q2, q3, q4, q5] false =>
      match q0 with
      | .v (.slice none 0 0) =>
        match q1 with
        | .v (.int .i64 z1) =>
          match q2 with
          | .v (.int .i64 z2) =>
            match q3 with
            | .v (.int .i64 z3) =>
              match q4 with
              | .v (.int .i64 z4) =>
                match q5 with
                | .v (.int .i64 z5) =>
                  match o1 with
                  | .cells [q6, q7, q8, q9, q10, q11] false =>
                    match q6 with
                    | .lst .t53 q_L =>
                      match q7 with
                      | .v (.int .i64 q_At) =>
                        match q8 with
                        | .v (.int .i64 q_Deep) =>
                          match q9 with
                          | .v (.int .i64 q_Many) =>
                            match q10 with
                            | .v (.int .i64 q_Code) =>
                              match q11 with
                              | .v (.int .i64 q_FAt) =>
                                match o2 with
                                | .row .t114 out false =>
                                  match a0 with
                                  | .ref 0 0 0 =>
                                    match a1 with
                                    | .ref 1 0 0 =>
                                      match a2 with
                                      | .full 2 =>
                                        some (z1, z2, z3, z4, z5, (⟨q_L, q_At, q_Deep, q_Many, q_Code, q_FAt⟩ : PS), out)
                                      | _ => none
                                    | _ => none
                                  | _ => none
                                | _ => none
                              | _ => none
                            | _ => none
                          | _ => none
                        | _ => none
                      | _ => none
                    | _ => none
                  | _ => none
                | _ => none
              | _ => none
            | _ => none
          | _ => none
        | _ => none
      | _ => none
    | _ => none
  | _, _ => none
theorem dl65_ok {s : TS U} {z1 : Int} {z2 : Int} {z3 : Int} {z4 : Int} {z5 : Int} {q : PS} {out : List R114} (h : dl65 s = some (z1, z2, z3, z4, z5, q, out)) : s = mkS (U := U) 45 ([2, 4, 5].zip ([.ref 0 0 0, .ref 1 0 0, .full 2] : List (TV U))) ([.cells [.v (.slice none 0 0), .v (.int .i64 z1), .v (.int .i64 z2), .v (.int .i64 z3), .v (.int .i64 z4), .v (.int .i64 z5)] false, q.ob, .row .t114 out false] : List (TO U)) 0 := by
  unfold dl65 at h
  split at h <;> try (cases h; done)
  rename_i ht ho
  have hs := told_ok ht
  rw [ho] at hs
  repeat' split at h
  all_goals first | (cases h; done) | (cases h; exact hs)
def Pre65 (m : Nat) (q : PS) (a1 a2 a3 a4 a5 : Int) (n : Nat) : Prop := (q.Ok ∧ q.left < m) ∧ (a1 = 0 ∧ a2 = 0 ∧ a3 = 0 ∧ a4 = 0 ∧ a5 = 0) ∧ n = 0
noncomputable instance (m : Nat) (q : PS) (a1 a2 a3 a4 a5 : Int) (n : Nat) : Decidable (Pre65 m q a1 a2 a3 a4 a5 n) := Classical.propDecidable _
noncomputable def lc65 (m : Nat) : LC U := .of dl65 (fun (a1, a2, a3, a4, a5, q, out) => Pre65 m q a1 a2 a3 a4 a5 out.length) (.exit 0)
  (fun (a1, a2, a3, a4, a5, q, out) => S65 (stmtsL PS.stmt (q.left + 1) q []).1 (stmtsL PS.stmt (q.left + 1) q []).2)
noncomputable def lp65 (m : Nat) : Lp U := lpL [(0, lc65 m)]
theorem lp65_ok (m : Nat) : ∀ c, Try.f97.body = some c → LpOk X (Ej m) an65 (lp65 m) (loops c 0) := lpL_ok (by kernel_rfl) fun b L hm st p hs => by
  cases hm with
  | tail _ h => cases h
  | head =>
    obtain ⟨⟨a1, a2, a3, a4, a5, q, out⟩, hx, ⟨⟨h1, h5⟩, ⟨rfl, rfl, rfl, rfl, rfl⟩, h3⟩, rfl⟩ := LC.of_some hs
    obtain rfl := List.length_eq_zero_iff.1 h3
    obtain rfl := dl65_ok hx
    have h2 := h1.left_le
    have h4 := h1.len
    exact ⟨_, rounds65 _ _ q [] h1 (Nat.le_refl _) h5 (by rw [List.length_nil]; omega)⟩
theorem e65 (n : Nat) (p : PS) : (evFn X (Ej n) an65 (lp65 n) Try.f97 [] [p.tv] fun (o : List (TO X.U)) (v : TV X.U) =>
  some (o, v)) =
  if Pre65 n p 0 0 0 0 0 0 then
  bif decide ((stmtsL PS.stmt (p.left + 1) p []).fst.Code = 0) then
    if (stmtsL PS.stmt (p.left + 1) p []).fst.Ok then
      some
        ([],
          TV.tup [(stmtsL PS.stmt (p.left + 1) p []).fst.next.tv, TV.lst C.t114 (stmtsL PS.stmt (p.left + 1) p []).snd])
    else none
  else
    some ([], TV.tup [(stmtsL PS.stmt (p.left + 1) p []).fst.tv, TV.lst C.t114 (stmtsL PS.stmt (p.left + 1) p []).snd])
else none := by kernel_rfl
theorem stmts_of {n : Nat} (h0 : SpecOk Try.prog 133 (sStmtLt n)) : SpecOk Try.prog 97 (sStmtsLt n) := by
  refine fn_ok X_ok mixed (Ej_ok h0) an65 (lp65 n) Try.func97 (by kernel_rfl) (by kernel_rfl) (lp65_ok n) fun objs args p hp h => ?_
  obtain ⟨rfl, rfl⟩ := dP_ok hp
  obtain ⟨h, hl⟩ := h
  dsimp only at h ⊢
  have h2 : Pre65 n p 0 0 0 0 0 0 := ⟨⟨h, hl⟩, ⟨rfl, rfl, rfl, rfl, rfl⟩, rfl⟩
  have h3 : (stmtsL PS.stmt (p.left + 1) p []).1.Ok := (stmtsL_ag (s2 := PS.stmt) (fun q hq hl => ⟨rfl, hq.stmt_ok⟩) (p.left + 1) p [] h (Nat.le_refl _)).2.1
  rw [e65]
  unfold PS.stmts stmtsW
  simp only [h2, h3, if_true]
  cases decide ((stmtsL PS.stmt (p.left + 1) p []).1.Code = 0) <;> rfl
theorem block_of {n : Nat} (h0 : SpecOk Try.prog 97 (sStmtsLt n)) : SpecOk Try.prog 157 (sBlockLt n) := by
  refine fn_ok X_ok mixed (Ei_ok h0) an0 lp0 Try.func157 (by kernel_rfl) (by kernel_rfl) (lp0_ok (by kernel_rfl)) fun objs args p hp h => ?_
  obtain ⟨rfl, rfl⟩ := dP_ok hp
  obtain ⟨h, hl⟩ := h
  dsimp only at h ⊢
  have h1 := ((h.must ⟨#[123]⟩).most (p.must ⟨#[123]⟩).Deep 64).up
  have h2 := h.must_lt ⟨#[123]⟩
  have h3 := (p.must ⟨#[123]⟩).most_left (p.must ⟨#[123]⟩).Deep 64
  have h4 : ((p.must ⟨#[123]⟩).most (p.must ⟨#[123]⟩).Deep 64).up.left = ((p.must ⟨#[123]⟩).most (p.must ⟨#[123]⟩).Deep 64).left := rfl
  have h5 : ((p.must ⟨#[123]⟩).most (p.must ⟨#[123]⟩).Deep 64).up.Ok ∧ ((p.must ⟨#[123]⟩).most (p.must ⟨#[123]⟩).Deep 64).up.left < n := ⟨h1, by omega⟩
  rw [e80, h.block_eq, if_pos h, if_pos (h.must _), if_pos h5]
  rfl
theorem stmt_of {n : Nat} (h0 : SpecOk Try.prog 157 (sBlockLt n)) : SpecOk Try.prog 133 (sStmtLt (n + 1)) := by
  refine fn_okw wkS X_ok mixed (Ek_ok h0) an76 (lp76 h0) Try.func133 (by kernel_rfl) (by kernel_rfl) (lp76_ok h0) fun objs args p hp h => ?_
  obtain ⟨rfl, rfl⟩ := dP_ok hp
  obtain ⟨h, hl⟩ := h
  dsimp only at h ⊢
  refine (e76 n h0 p).trans ?_
  unfold PS.stmt stmtW ifW bIf bWhile bLock bUnlock bReturn bSkip bSemi bElse
  simp only [if_pos h]
  cases h1 : p.is ⟨#[105, 102]⟩ with
  | true =>
    have hpos := h.is_pos h1
    have hl1 := h.next_lt (PS.is_kind h1)
    have hm := h.next.name_lt
    have g1 : p.next.name.1.Ok ∧ p.next.name.1.left < n := ⟨h.next.name, by omega⟩
    obtain ⟨o1, c1⟩ := h.next.name.block_ok
    have g2 := p.next.name.1.block.1.next_left
    have g3 : p.next.name.1.block.1.next.Ok ∧ p.next.name.1.block.1.next.left < n := ⟨o1.next, by omega⟩
    simp only [Bool.not_true, cond_false, if_pos h.next, if_pos g1, if_pos o1, if_pos g3]
    cases p.next.name.1.block.1.is ⟨#[101, 108, 115, 101]⟩ <;> rfl
  | false =>
    simp only [Bool.not_false, cond_true]
    cases h2 : p.is ⟨#[119, 104, 105, 108, 101]⟩ with
    | true =>
      have hpos := h.is_pos h2
      have hl1 := h.next_lt (PS.is_kind h2)
      have hm := h.next.name_lt
      have g1 : p.next.name.1.Ok ∧ p.next.name.1.left < n := ⟨h.next.name, by omega⟩
      simp only [Bool.not_true, cond_false, if_pos h.next, if_pos g1]
      rfl
    | false =>
      simp only [Bool.not_false, cond_true, h, h.next, h.next.name, (h.sets p.now.At).1, z0, and_self, if_true]
      simp only [Bool.cond_eq_ite]
      repeat' split
      all_goals first | kernel_rfl | (exfalso; simp_all; done)
theorem block_lt : ∀ n : Nat, SpecOk Try.prog 157 (sBlockLt n)
  | 0 => by
    refine fn_ok X_ok mixed E0_ok an0 lp0 Try.func157 (by kernel_rfl) (by kernel_rfl) (lp0_ok (by kernel_rfl)) fun objs args p hp h => ?_
    exact absurd h.2 (Nat.not_lt_zero _)
  | n + 1 => block_of (stmts_of (stmt_of (block_lt n)))
noncomputable def sStmts : Spc U := .of dP (fun p => p.Ok) (fun _ => []) fun p => .tup [p.stmts.1.tv, .lst .t114 p.stmts.2]
theorem sStmts_ok : SpecOk Try.prog 97 sStmts := SpecOk.lim PS.left fun n => by
  have h := stmts_of (stmt_of (block_lt n))
  refine SpecOk.of h fun objs args p hp hx => ?_
  unfold sStmtsLt Spc.of
  dsimp only
  rw [hp]
  dsimp only
  rw [if_pos ⟨hx.1, Nat.lt_succ_of_lt hx.2⟩]
end Go.Proofs.Ytpkgikchphgfaaa.Fl

/- Loops and functions of which what is told afterwards hangs on whether rows are none. -/
namespace Go.Proofs.Ytpkgikchphgfaaa.Eng
open Go Go.RowKit
set_option linter.unusedVariables false
def unc {α : Type} : List α → Option (α × List α)
  | [] => none
  | x :: l => some (x, l)
/-- Whether a row is none is looked at first. -/
def lsp {α R : Type} (g : List α) (k : List α → Option R) : Option R := cond g.isEmpty (k []) ((unc g).bind fun x => k (x.1 :: x.2))
theorem lsp_eq {α R : Type} (g : List α) (k : List α → Option R) : lsp g k = k g := by cases g <;> rfl
def LC.ofG {U : Univ} {A : Type} (d : TS U → Option A) (pre : A → Prop) [DecidablePred pre] (G : {R : Type} → A → (Exit → TS U → Option R) → Option R) (ex : A → Exit) (s' : A → TS U) (hG : ∀ {R : Type} (x : A) (K : Exit → TS U → Option R), G x K = K (ex x) (s' x)) : LC U := ⟨fun s K => match d s with
  | some x => if pre x then G x K else none
  | none => none, fun s K r h => by
  split at h <;> try (cases h; done)
  rename_i x hx
  split at h <;> try (cases h; done)
  rename_i hp
  rw [hG] at h
  exact ⟨_, _, h, fun K' => by rw [if_pos hp, hG]⟩⟩
theorem LC.ofG_some {U : Univ} {A : Type} {d : TS U → Option A} {pre : A → Prop} [DecidablePred pre] {G : {R : Type} → A → (Exit → TS U → Option R) → Option R} {ex : A → Exit} {s' : A → TS U} (hG : ∀ {R : Type} (x : A) (K : Exit → TS U → Option R), G x K = K (ex x) (s' x)) {s : TS U} {p : Exit × TS U} (h : (LC.ofG d pre G ex s' hG).F s (fun e s => some (e, s)) = some p) : ∃ x, d s = some x ∧ pre x ∧ p = (ex x, s' x) := by
  unfold LC.ofG at h
  dsimp only at h
  split at h <;> try (cases h; done)
  rename_i x hx
  split at h <;> try (cases h; done)
  rename_i hp
  rw [hG] at h
  cases h
  exact ⟨x, hx, hp, rfl⟩
/-- The first of two decoders that fits. -/
def orD {S A : Type} (d e : S → Option A) (s : S) : Option A := match d s with
  | some x => some x
  | none => e s
theorem orD_some {S A : Type} {d e : S → Option A} {s : S} {x : A} (h : orD d e s = some x) : d s = some x ∨ e s = some x := by
  unfold orD at h
  cases hd : d s with
  | some y => rw [hd] at h; exact .inl h
  | none => rw [hd] at h; exact .inr h
end Go.Proofs.Ytpkgikchphgfaaa.Eng

/- The references' parser: functions. -/
namespace Go.Proofs.Ytpkgikchphgfaaa.Fl
open Go Go.RowKit Go.Proofs.Ytpkgikchphgfaaa.Eng
set_option linter.unusedVariables false
set_option linter.unusedSimpArgs false
set_option maxRecDepth 20000
noncomputable def El : FuncId → Option (Spc U)
  | 46 => some sDecl
  | 97 => some sStmts
  | f => Ed f
theorem El_ok : ∀ f S, El f = some S → SpecOk Try.prog f S := fun f S h => by
  unfold El at h
  split at h
  · cases h; exact sDecl_ok
  · cases h; exact sStmts_ok
  · exact Ed_ok _ _ h
def an54 : Ann := ⟨fun | 0 => 240 | 2 => 240 | _ => 0, fun | 0 => 240 | 2 => 240 | _ => 0, fun _ => [], false⟩
def z90 : TO U := .cells [.v (.string bz), .v (.int .i64 0), nl, .v (.int .i64 0), nl, nl] false
def S54N (q : PS) (s : ByteArray) (a : Int) : TS U := mkS 100 [(4, .ref 0 0 0), (5, .ref 1 0 0), (6, .ref 2 0 0), (7, .ref 3 0 0)] [ob0, z90, .cells [.v (.string s), .v (.int .i64 a), nl, .v (.int .i64 0), nl, nl] false, q.ob] 0
def S54R (q : PS) (s : ByteArray) (a : Int) (ps : List R82) : TS U := mkS 100 [(4, .ref 0 0 0), (5, .ref 1 0 0), (6, .ref 2 0 0), (7, .ref 4 0 0)] [ob0, z90, .cells [.v (.string s), .v (.int .i64 a), .full 3, .v (.int .i64 0), nl, nl] false, .row .t82 ps false, q.ob] 0
def S54 (q : PS) (s : ByteArray) (a : Int) : List R82 → TS U
  | [] => S54N q s a
  | x :: l => S54R q s a (x :: l)
theorem r54 (lp : Lp U) (N : Nat) (q : PS) (s : ByteArray) (a : Int) (ps : List R82) : fnLoop X El an54 lp Try.f48 0 N.succ (S54 q s a ps) =
    cond (decide (q.Code = 0)) (if q.Ok then cond (!q.is ⟨#[41]⟩) (cond (decide (0 < (ps.length : Int)))
      (if q.Ok then (if (q.must ⟨#[44]⟩).Ok then (if ((q.must ⟨#[44]⟩).most ps.length 8).Ok then (if (ps.length + 1) * 32 ≤ 140737488355328 then fnLoop X El an54 lp Try.f48 0 N (S54 ((q.must ⟨#[44]⟩).most ps.length 8).decl.1 s a (ps ++ [((q.must ⟨#[44]⟩).most ps.length 8).decl.2])) else none) else none) else none) else none)
      (if q.Ok then (if (q.most ps.length 8).Ok then (if (ps.length + 1) * 32 ≤ 140737488355328 then fnLoop X El an54 lp Try.f48 0 N (S54 (q.most ps.length 8).decl.1 s a (ps ++ [(q.most ps.length 8).decl.2])) else none) else none) else none))
      (some (.exit 0, S54 q s a ps)) else none) (some (.exit 0, S54 q s a ps)) := by cases ps <;> kernel_rfl
/-- Declarations, one behind the other. -/
def declsL : Nat → PS → List R82 → PS × List R82
  | 0, q, out => (q, out)
  | N + 1, q, out => cond (decide (q.Code = 0)) (cond (!q.is ⟨#[41]⟩)
    (declsL N ((cond (decide (0 < (out.length : Int))) (q.must ⟨#[44]⟩) q).most out.length 8).decl.1 (out ++ [((cond (decide (0 < (out.length : Int))) (q.must ⟨#[44]⟩) q).most out.length 8).decl.2])) (q, out)) (q, out)
theorem declsL_ok : ∀ (N : Nat) (q : PS) (out : List R82), q.Ok → (declsL N q out).1.Ok ∧ (declsL N q out).2.length + (declsL N q out).1.left ≤ out.length + q.left := by
  intro N
  induction N with
  | zero => intro q out h; exact ⟨h, Nat.le_refl _⟩
  | succ N ih =>
    intro q out h
    rw [declsL]
    by_cases hc : q.Code = 0
    · rw [decide_eq_true hc, cond_true]
      have hpos := h.left_pos hc
      cases !q.is ⟨#[41]⟩ with
      | false => exact ⟨h, Nat.le_refl _⟩
      | true =>
        simp only [cond_true]
        obtain ⟨q1, e1⟩ : ∃ q1, cond (decide (0 < (out.length : Int))) (q.must ⟨#[44]⟩) q = q1 := ⟨_, rfl⟩
        have h1 : q1.Ok ∧ q1.left ≤ q.left := by
          rw [← e1]
          cases decide (0 < (out.length : Int)) with
          | false => exact ⟨h, Nat.le_refl _⟩
          | true => exact ⟨h.must _, Nat.le_trans (h.must_lt _) (Nat.sub_le _ _)⟩
        rw [e1]
        have h2 := (h1.1.most (out.length : Int) 8).decl
        have h3 := (h1.1.most (out.length : Int) 8).decl_lt
        have h4 := q1.most_left out.length 8
        obtain ⟨a, c⟩ := ih _ (out ++ [(q1.most out.length 8).decl.2]) h2
        rw [List.length_append] at c
        simp only [List.length_singleton] at c
        exact ⟨a, by omega⟩
    · rw [decide_eq_false hc]
      exact ⟨h, Nat.le_refl _⟩
theorem rounds54 (lp : Lp U) (s : ByteArray) (a : Int) : ∀ (N : Nat) (q : PS) (out : List R82), q.Ok → q.left ≤ N → out.length + N ≤ 2000000 →
    fnLoop X El an54 lp Try.f48 0 (N + 1) (S54 q s a out) = some (.exit 0, S54 (declsL (N + 1) q out).1 s a (declsL (N + 1) q out).2) := by
  intro N
  induction N with
  | zero =>
    intro q out h hl hn
    have hc := h.left_zero (by omega)
    rw [r54, declsL, decide_eq_false hc]
    rfl
  | succ N ih =>
    intro q out h hl hn
    rw [r54, declsL]
    by_cases hc : q.Code = 0
    · rw [decide_eq_true hc, if_pos h]
      have hpos := h.left_pos hc
      cases q.is ⟨#[41]⟩ with
      | true => rfl
      | false =>
        have hlen : (out.length + 1) * 32 ≤ 140737488355328 := by omega
        have key : ∀ q1 : PS, q1.Ok → q1.left ≤ q.left → fnLoop X El an54 lp Try.f48 0 (N + 1) (S54 (q1.most out.length 8).decl.1 s a (out ++ [(q1.most out.length 8).decl.2])) = some (.exit 0, S54 (declsL (N + 1) (q1.most out.length 8).decl.1 (out ++ [(q1.most out.length 8).decl.2])).1 s a (declsL (N + 1) (q1.most out.length 8).decl.1 (out ++ [(q1.most out.length 8).decl.2])).2) := fun q1 h1 hl1 => by
          have h3 := (h1.most (out.length : Int) 8).decl_lt
          have h4 := q1.most_left out.length 8
          exact ih _ _ (h1.most _ _).decl (by omega) (by rw [List.length_append]; simp only [List.length_singleton]; omega)
        simp only [Bool.not_false, cond_true, h, h.must, h.most, PS.Ok.most (h.must _), if_true, hlen]
        cases decide (0 < (out.length : Int)) with
        | true => exact key _ (h.must _) (Nat.le_trans (h.must_lt _) (Nat.sub_le _ _))
        | false => exact key _ h (Nat.le_refl _)
    · rw [decide_eq_false hc]
      rfl
def dl54 (s : TS U) : Option (Int × Int × Int × Int × Int × ByteArray × Int × Int × ByteArray × Int × Int × PS) := match told s 100 [4, 5, 6, 7] 0, s.objs with
  | some [a0, a1, a2, a3], [o0, o1, o2, o3] =>
    match o0 with
    | .cells [q0, q1, q2, q3, q4, q5] false =>
      match q0 with
      | .v (.slice none 0 0) =>
        match q1 with
        | .v (.int .i64 z1) =>
          match q2 with
          | .v (.int .i64 z2) =>
            match q3 with
            | .v (.int .i64 z3) =>
              match q4 with
              | .v (.int .i64 z4) =>
                match q5 with
                | .v (.int .i64 z5) =>
                  match o1 with
                  | .cells [q6, q7, q8, q9, q10, q11] false =>
                    match q6 with
                    | .v (.string y1) =>
                      match q7 with
                      | .v (.int .i64 y2) =>
                        match q8 with
                        | .v (.slice none 0 0) =>
                          match q9 with
                          | .v (.int .i64 y3) =>
                            match q10 with
                            | .v (.slice none 0 0) =>
                              match q11 with
                              | .v (.slice none 0 0) =>
                                match o2 with
                                | .cells [q12, q13, q14, q15, q16, q17] false =>
                                  match q12 with
                                  | .v (.string s1) =>
                                    match q13 with
                                    | .v (.int .i64 s2) =>
                                      match q14 with
                                      | .v (.slice none 0 0) =>
                                        match q15 with
                                        | .v (.int .i64 s3) =>
                                          match q16 with
                                          | .v (.slice none 0 0) =>
                                            match q17 with
                                            | .v (.slice none 0 0) =>
                                              match o3 with
                                              | .cells [q18, q19, q20, q21, q22, q23] false =>
                                                match q18 with
                                                | .lst .t53 q_L =>
                                                  match q19 with
                                                  | .v (.int .i64 q_At) =>
                                                    match q20 with
                                                    | .v (.int .i64 q_Deep) =>
                                                      match q21 with
                                                      | .v (.int .i64 q_Many) =>
                                                        match q22 with
                                                        | .v (.int .i64 q_Code) =>
                                                          match q23 with
                                                          | .v (.int .i64 q_FAt) =>
                                                            match a0 with
                                                            | .ref 0 0 0 =>
                                                              match a1 with
                                                              | .ref 1 0 0 =>
                                                                match a2 with
                                                                | .ref 2 0 0 =>
                                                                  match a3 with
                                                                  | .ref 3 0 0 =>
                                                                    some (z1, z2, z3, z4, z5, y1, y2, y3, s1, s2, s3, (⟨q_L, q_At, q_Deep, q_Many, q_Code, q_FAt⟩ : PS))
                                                                  | _ => none
                                                                | _ => none
                                                              | _ => none
                                                            | _ => none
                                                          | _ => none
                                                        | _ => none
                                                      | _ => none
                                                    | _ => none
                                                  | _ => none
                                                | _ => none
                                              | _ => none
                                            | _ => none
                                          | _ => none
                                        | _ => none
                                      | _ => none
                                    | _ => none
                                  | _ => none
                                | _ => none
                              | _ => none
                            | _ => none
                          | _ => none
                        | _ => none
                      | _ => none
                    | _ => none
                  | _ => none
                | _ => none
              | _ => none
            | _ => none
          | _ => none
        | _ => none
      | _ => none
    | _ => none
  | _, _ => none
theorem dl54_ok {s : TS U} {z1 : Int} {z2 : Int} {z3 : Int} {z4 : Int} {z5 : Int} {y1 : ByteArray} {y2 : Int} {y3 : Int} {s1 : ByteArray} {s2 : Int} {s3 : Int} {q : PS} (h : dl54 s = some (z1, z2, z3, z4, z5, y1, y2, y3, s1, s2, s3, q)) : s = mkS (U := U) 100 ([4, 5, 6, 7].zip ([.ref 0 0 0, .ref 1 0 0, .ref 2 0 0, .ref 3 0 0] : List (TV U))) ([.cells [.v (.slice none 0 0), .v (.int .i64 z1), .v (.int .i64 z2), .v (.int .i64 z3), .v (.int .i64 z4), .v (.int .i64 z5)] false, .cells [.v (.string y1), .v (.int .i64 y2), .v (.slice none 0 0), .v (.int .i64 y3), .v (.slice none 0 0), .v (.slice none 0 0)] false, .cells [.v (.string s1), .v (.int .i64 s2), .v (.slice none 0 0), .v (.int .i64 s3), .v (.slice none 0 0), .v (.slice none 0 0)] false, q.ob] : List (TO U)) 0 := by
  unfold dl54 at h
  split at h <;> try (cases h; done)
  rename_i ht ho
  have hs := told_ok ht
  rw [ho] at hs
  repeat' split at h
  all_goals first | (cases h; done) | (cases h; exact hs)
def Pre54 (q : PS) (z1 z2 z3 z4 z5 : Int) (y1 : ByteArray) (y2 y3 s3 : Int) : Prop := q.Ok ∧ (z1 = 0 ∧ z2 = 0 ∧ z3 = 0 ∧ z4 = 0 ∧ z5 = 0) ∧ y1 = bz ∧ y2 = 0 ∧ y3 = 0 ∧ s3 = 0
noncomputable instance (q : PS) (z1 z2 z3 z4 z5 : Int) (y1 : ByteArray) (y2 y3 s3 : Int) : Decidable (Pre54 q z1 z2 z3 z4 z5 y1 y2 y3 s3) := Classical.propDecidable _
def declsP (q : PS) : PS × List R82 := declsL (q.left + 1) q []
noncomputable def lc54 : LC U := .ofG dl54 (fun (z1, z2, z3, z4, z5, y1, y2, y3, s1, s2, s3, q) => Pre54 q z1 z2 z3 z4 z5 y1 y2 y3 s3)
  (fun (z1, z2, z3, z4, z5, y1, y2, y3, s1, s2, s3, q) K => lsp (declsP q).2 fun ps => K (.exit 0) (S54 (declsP q).1 s1 s2 ps)) (fun _ => .exit 0)
  (fun (z1, z2, z3, z4, z5, y1, y2, y3, s1, s2, s3, q) => S54 (declsP q).1 s1 s2 (declsP q).2) fun x K => lsp_eq _ _
/-! ### Variables -/
def S54bNN (q : PS) (s : ByteArray) (a r : Int) : TS U := mkS 100 [(4, .ref 0 0 0), (5, .ref 1 0 0), (6, .ref 2 0 0), (7, .ref 3 0 0)] [ob0, z90, .cells [.v (.string s), .v (.int .i64 a), nl, .v (.int .i64 r), nl, nl] false, q.ob] 0
def S54bRN (q : PS) (s : ByteArray) (a r : Int) (ps : List R82) : TS U := mkS 100 [(4, .ref 0 0 0), (5, .ref 1 0 0), (6, .ref 2 0 0), (7, .ref 4 0 0)] [ob0, z90, .cells [.v (.string s), .v (.int .i64 a), .full 3, .v (.int .i64 r), nl, nl] false, .row .t82 ps false, q.ob] 0
def S54bNR (q : PS) (s : ByteArray) (a r : Int) (vs : List R82) : TS U := mkS 100 [(4, .ref 0 0 0), (5, .ref 1 0 0), (6, .ref 2 0 0), (7, .ref 4 0 0)] [ob0, z90, .cells [.v (.string s), .v (.int .i64 a), nl, .v (.int .i64 r), .full 3, nl] false, .row .t82 vs false, q.ob] 0
def S54bRR (q : PS) (s : ByteArray) (a r : Int) (ps vs : List R82) : TS U := mkS 100 [(4, .ref 0 0 0), (5, .ref 1 0 0), (6, .ref 2 0 0), (7, .ref 5 0 0)] [ob0, z90, .cells [.v (.string s), .v (.int .i64 a), .full 3, .v (.int .i64 r), .full 4, nl] false, .row .t82 ps false, .row .t82 vs false, q.ob] 0
theorem rbNN (lp : Lp
  U) (N : Nat) (q : PS) (s : ByteArray) (a : Int) (r : Int) : (fnLoop X El an54 lp Try.f48 2 N.succ (S54bNN q s a r)) =
  if q.Ok then
  bif q.is (⟨#[118, 97, 114]⟩ : ByteArray) then
    if q.Ok then
      if q.next.Ok then
        if (q.next.most 0 128).Ok then
          if (q.next.most 0 128).decl.fst.Ok then
            if 1 * 32 ≤ 140737488355328 then
              fnLoop X El an54 lp Try.f48 2 N
                (S54bNR ((q.next.most 0 128).decl.fst.must (⟨#[59]⟩ : ByteArray)) s a r [(q.next.most 0 128).decl.snd])
            else none
          else none
        else none
      else none
    else none
  else some (Exit.exit 2, S54bNN q s a r)
else none := by kernel_rfl
theorem rbRR (lp : Lp
  U) (N : Nat) (q : PS) (s : ByteArray) (a : Int) (r : Int) (x : R82) (ps : List
  R82) : (fnLoop X El an54 lp Try.f48 2 N.succ (S54bRN q s a r (x :: ps))) =
  if q.Ok then
  bif q.is (⟨#[118, 97, 114]⟩ : ByteArray) then
    if q.Ok then
      if q.next.Ok then
        if (q.next.most 0 128).Ok then
          if (q.next.most 0 128).decl.fst.Ok then
            if 1 * 32 ≤ 140737488355328 then
              fnLoop X El an54 lp Try.f48 2 N
                (S54bRR ((q.next.most 0 128).decl.fst.must (⟨#[59]⟩ : ByteArray)) s a r (x :: ps)
                  [(q.next.most 0 128).decl.snd])
            else none
          else none
        else none
      else none
    else none
  else some (Exit.exit 2, S54bRN q s a r (x :: ps))
else none := by kernel_rfl
end Go.Proofs.Ytpkgikchphgfaaa.Fl

/- The references' parser: functions' variables. -/
namespace Go.Proofs.Ytpkgikchphgfaaa.Fl
open Go Go.RowKit Go.Proofs.Ytpkgikchphgfaaa.Eng
set_option linter.unusedVariables false
set_option linter.unusedSimpArgs false
set_option maxRecDepth 20000
def S54b (q : PS) (s : ByteArray) (a r : Int) : List R82 → List R82 → TS U
  | [], [] => S54bNN q s a r
  | x :: l, [] => S54bRN q s a r (x :: l)
  | [], y :: m => S54bNR q s a r (y :: m)
  | x :: l, y :: m => S54bRR q s a r (x :: l) (y :: m)
def bVar : ByteArray := ⟨#[118, 97, 114]⟩
theorem r54b (lp : Lp U) (N : Nat) (q : PS) (s : ByteArray) (a r : Int) (ps vs : List R82) : fnLoop X El an54 lp Try.f48 2 N.succ (S54b q s a r ps vs) =
    if q.Ok then cond (q.is ⟨#[118, 97, 114]⟩) (if q.Ok then (if q.next.Ok then (if (q.next.most vs.length 128).Ok then (if (q.next.most vs.length 128).decl.1.Ok then (if (vs.length + 1) * 32 ≤ 140737488355328 then fnLoop X El an54 lp Try.f48 2 N (S54b ((q.next.most vs.length 128).decl.1.must ⟨#[59]⟩) s a r ps (vs ++ [(q.next.most vs.length 128).decl.2])) else none) else none) else none) else none) else none)
      (some (.exit 2, S54b q s a r ps vs)) else none := by cases ps <;> cases vs <;> kernel_rfl
def varsL : Nat → PS → List R82 → PS × List R82
  | 0, q, out => (q, out)
  | N + 1, q, out => cond (q.is ⟨#[118, 97, 114]⟩) (varsL N ((q.next.most out.length 128).decl.1.must ⟨#[59]⟩) (out ++ [(q.next.most out.length 128).decl.2])) (q, out)
theorem varsL_ok : ∀ (N : Nat) (q : PS) (out : List R82), q.Ok → (varsL N q out).1.Ok ∧ (varsL N q out).2.length + (varsL N q out).1.left ≤ out.length + q.left := by
  intro N
  induction N with
  | zero => intro q out h; exact ⟨h, Nat.le_refl _⟩
  | succ N ih =>
    intro q out h
    rw [varsL]
    cases hv : q.is ⟨#[118, 97, 114]⟩ with
    | false => exact ⟨h, Nat.le_refl _⟩
    | true =>
      have hpos := h.is_pos hv
      have h1 := h.next_lt (PS.is_kind hv)
      have h2 := (h.next.most (out.length : Int) 128).decl_lt
      have h3 := q.next.most_left out.length 128
      have h4 := (h.next.most (out.length : Int) 128).decl
      have h5 := h4.must_lt ⟨#[59]⟩
      obtain ⟨a, c⟩ := ih _ (out ++ [(q.next.most out.length 128).decl.2]) (h4.must ⟨#[59]⟩)
      rw [List.length_append] at c
      simp only [List.length_singleton] at c
      rw [cond_true]
      exact ⟨a, by omega⟩
theorem rounds54b (lp : Lp U) (s : ByteArray) (a r : Int) (ps : List R82) : ∀ (N : Nat) (q : PS) (out : List R82), q.Ok → q.left ≤ N → out.length + N ≤ 2000000 →
    fnLoop X El an54 lp Try.f48 2 (N + 1) (S54b q s a r ps out) = some (.exit 2, S54b (varsL (N + 1) q out).1 s a r ps (varsL (N + 1) q out).2) := by
  intro N
  induction N with
  | zero =>
    intro q out h hl hn
    rw [r54b, varsL, if_pos h]
    cases hv : q.is ⟨#[118, 97, 114]⟩ with
    | false => rfl
    | true => have := h.is_pos hv; omega
  | succ N ih =>
    intro q out h hl hn
    rw [r54b, varsL, if_pos h]
    cases hv : q.is ⟨#[118, 97, 114]⟩ with
    | false => rfl
    | true =>
      have hlen : (out.length + 1) * 32 ≤ 140737488355328 := by omega
      have hpos := h.is_pos hv
      have h1 := h.next_lt (PS.is_kind hv)
      have h2 := (h.next.most (out.length : Int) 128).decl_lt
      have h3 := q.next.most_left out.length 128
      have h4 := (h.next.most (out.length : Int) 128).decl
      have h5 := h4.must_lt ⟨#[59]⟩
      simp only [cond_true, h, h.next, h.next.most, h4, if_true, hlen]
      exact ih _ _ (h4.must _) (by omega) (by rw [List.length_append]; simp only [List.length_singleton]; omega)
def dbN (s : TS U) : Option (Int × Int × Int × Int × Int × ByteArray × Int × Int × ByteArray × Int × Int × PS) := match told s 100 [4, 5, 6, 7] 0, s.objs with
  | some [a0, a1, a2, a3], [o0, o1, o2, o3] =>
    match o0 with
    | .cells [q0, q1, q2, q3, q4, q5] false =>
      match q0 with
      | .v (.slice none 0 0) =>
        match q1 with
        | .v (.int .i64 z1) =>
          match q2 with
          | .v (.int .i64 z2) =>
            match q3 with
            | .v (.int .i64 z3) =>
              match q4 with
              | .v (.int .i64 z4) =>
                match q5 with
                | .v (.int .i64 z5) =>
                  match o1 with
                  | .cells [q6, q7, q8, q9, q10, q11] false =>
                    match q6 with
                    | .v (.string y1) =>
                      match q7 with
                      | .v (.int .i64 y2) =>
                        match q8 with
                        | .v (.slice none 0 0) =>
                          match q9 with
                          | .v (.int .i64 y3) =>
                            match q10 with
                            | .v (.slice none 0 0) =>
                              match q11 with
                              | .v (.slice none 0 0) =>
                                match o2 with
                                | .cells [q12, q13, q14, q15, q16, q17] false =>
                                  match q12 with
                                  | .v (.string s1) =>
                                    match q13 with
                                    | .v (.int .i64 s2) =>
                                      match q14 with
                                      | .v (.slice none 0 0) =>
                                        match q15 with
                                        | .v (.int .i64 s3) =>
                                          match q16 with
                                          | .v (.slice none 0 0) =>
                                            match q17 with
                                            | .v (.slice none 0 0) =>
                                              match o3 with
                                              | .cells [q18, q19, q20, q21, q22, q23] false =>
                                                match q18 with
                                                | .lst .t53 q_L =>
                                                  match q19 with
                                                  | .v (.int .i64 q_At) =>
                                                    match q20 with
                                                    | .v (.int .i64 q_Deep) =>
                                                      match q21 with
                                                      | .v (.int .i64 q_Many) =>
                                                        match q22 with
                                                        | .v (.int .i64 q_Code) =>
                                                          match q23 with
                                                          | .v (.int .i64 q_FAt) =>
                                                            match a0 with
                                                            | .ref 0 0 0 =>
                                                              match a1 with
                                                              | .ref 1 0 0 =>
                                                                match a2 with
                                                                | .ref 2 0 0 =>
                                                                  match a3 with
                                                                  | .ref 3 0 0 =>
                                                                    some (z1, z2, z3, z4, z5, y1, y2, y3, s1, s2, s3, (⟨q_L, q_At, q_Deep, q_Many, q_Code, q_FAt⟩ : PS))
                                                                  | _ => none
                                                                | _ => none
                                                              | _ => none
                                                            | _ => none
                                                          | _ => none
                                                        | _ => none
                                                      | _ => none
                                                    | _ => none
                                                  | _ => none
                                                | _ => none
                                              | _ => none
                                            | _ => none
                                          | _ => none
                                        | _ => none
                                      | _ => none
                                    | _ => none
                                  | _ => none
                                | _ => none
                              | _ => none
                            | _ => none
                          | _ => none
                        | _ => none
                      | _ => none
                    | _ => none
                  | _ => none
                | _ => none
              | _ => none
            | _ => none
          | _ => none
        | _ => none
      | _ => none
    | _ => none
  | _, _ => none
theorem dbN_ok {s : TS U} {z1 : Int} {z2 : Int} {z3 : Int} {z4 : Int} {z5 : Int} {y1 : ByteArray} {y2 : Int} {y3 : Int} {s1 : ByteArray} {s2 : Int} {s3 : Int} {q : PS} (h : dbN s = some (z1, z2, z3, z4, z5, y1, y2, y3, s1, s2, s3, q)) : s = mkS (U := U) 100 ([4, 5, 6, 7].zip ([.ref 0 0 0, .ref 1 0 0, .ref 2 0 0, .ref 3 0 0] : List (TV U))) ([.cells [.v (.slice none 0 0), .v (.int .i64 z1), .v (.int .i64 z2), .v (.int .i64 z3), .v (.int .i64 z4), .v (.int .i64 z5)] false, .cells [.v (.string y1), .v (.int .i64 y2), .v (.slice none 0 0), .v (.int .i64 y3), .v (.slice none 0 0), .v (.slice none 0 0)] false, .cells [.v (.string s1), .v (.int .i64 s2), .v (.slice none 0 0), .v (.int .i64 s3), .v (.slice none 0 0), .v (.slice none 0 0)] false, q.ob] : List (TO U)) 0 := by
  unfold dbN at h
  split at h <;> try (cases h; done)
  rename_i ht ho
  have hs := told_ok ht
  rw [ho] at hs
  repeat' split at h
  all_goals first | (cases h; done) | (cases h; exact hs)
def dbR (s : TS U) : Option (Int × Int × Int × Int × Int × ByteArray × Int × Int × ByteArray × Int × Int × List R82 × PS) := match told s 100 [4, 5, 6, 7] 0, s.objs with
  | some [a0, a1, a2, a3], [o0, o1, o2, o3, o4] =>
    match o0 with
    | .cells [q0, q1, q2, q3, q4, q5] false =>
      match q0 with
      | .v (.slice none 0 0) =>
        match q1 with
        | .v (.int .i64 z1) =>
          match q2 with
          | .v (.int .i64 z2) =>
            match q3 with
            | .v (.int .i64 z3) =>
              match q4 with
              | .v (.int .i64 z4) =>
                match q5 with
                | .v (.int .i64 z5) =>
                  match o1 with
                  | .cells [q6, q7, q8, q9, q10, q11] false =>
                    match q6 with
                    | .v (.string y1) =>
                      match q7 with
                      | .v (.int .i64 y2) =>
                        match q8 with
                        | .v (.slice none 0 0) =>
                          match q9 with
                          | .v (.int .i64 y3) =>
                            match q10 with
                            | .v (.slice none 0 0) =>
                              match q11 with
                              | .v (.slice none 0 0) =>
                                match o2 with
                                | .cells [q12, q13, q14, q15, q16, q17] false =>
                                  match q12 with
                                  | .v (.string s1) =>
                                    match q13 with
                                    | .v (.int .i64 s2) =>
                                      match q14 with
                                      | .full 3 =>
                                        match q15 with
                                        | .v (.int .i64 s3) =>
                                          match q16 with
                                          | .v (.slice none 0 0) =>
                                            match q17 with
                                            | .v (.slice none 0 0) =>
                                              match o3 with
                                              | .row .t82 ps false =>
                                                match o4 with
                                                | .cells [q18, q19, q20, q21, q22, q23] false =>
                                                  match q18 with
                                                  | .lst .t53 q_L =>
                                                    match q19 with
                                                    | .v (.int .i64 q_At) =>
                                                      match q20 with
                                                      | .v (.int .i64 q_Deep) =>
                                                        match q21 with
                                                        | .v (.int .i64 q_Many) =>
                                                          match q22 with
                                                          | .v (.int .i64 q_Code) =>
                                                            match q23 with
                                                            | .v (.int .i64 q_FAt) =>
                                                              match a0 with
                                                              | .ref 0 0 0 =>
                                                                match a1 with
                                                                | .ref 1 0 0 =>
                                                                  match a2 with
                                                                  | .ref 2 0 0 =>
                                                                    match a3 with
                                                                    | .ref 4 0 0 =>
                                                                      some (z1, z2, z3, z4, z5, y1, y2, y3, s1, s2, s3, ps, (⟨q_L, q_At, q_Deep, q_Many, q_Code, q_FAt⟩ : PS))
                                                                    | _ => none
                                                                  | _ => none
                                                                | _ => none
                                                              | _ => none
                                                            | _ => none
                                                          | _ => none
                                                        | _ => none
                                                      | _ => none
                                                    | _ => none
                                                  | _ => none
                                                | _ => none
                                              | _ => none
                                            | _ => none
                                          | _ => none
                                        | _ => none
                                      | _ => none
                                    | _ => none
                                  | _ => none
                                | _ => none
                              | _ => none
                            | _ => none
                          | _ => none
                        | _ => none
                      | _ => none
                    | _ => none
                  | _ => none
                | _ => none
              | _ => none
            | _ => none
          | _ => none
        | _ => none
      | _ => none
    | _ => none
  | _, _ => none
theorem dbR_ok {s : TS U} {z1 : Int} {z2 : Int} {z3 : Int} {z4 : Int} {z5 : Int} {y1 : ByteArray} {y2 : Int} {y3 : Int} {s1 : ByteArray} {s2 : Int} {s3 : Int} {ps : List R82} {q : PS} (h : dbR s = some (z1, z2, z3, z4, z5, y1, y2, y3, s1, s2, s3, ps, q)) : s = mkS (U := U) 100 ([4, 5, 6, 7].zip ([.ref 0 0 0, .ref 1 0 0, .ref 2 0 0, .ref 4 0 0] : List (TV U))) ([.cells [.v (.slice none 0 0), .v (.int .i64 z1), .v (.int .i64 z2), .v (.int .i64 z3), .v (.int .i64 z4), .v (.int .i64 z5)] false, .cells [.v (.string y1), .v (.int .i64 y2), .v (.slice none 0 0), .v (.int .i64 y3), .v (.slice none 0 0), .v (.slice none 0 0)] false, .cells [.v (.string s1), .v (.int .i64 s2), .full 3, .v (.int .i64 s3), .v (.slice none 0 0), .v (.slice none 0 0)] false, .row .t82 ps false, q.ob] : List (TO U)) 0 := by
  unfold dbR at h
  split at h <;> try (cases h; done)
  rename_i ht ho
  have hs := told_ok ht
  rw [ho] at hs
  repeat' split at h
  all_goals first | (cases h; done) | (cases h; exact hs)
structure A54 where
  z : Int × Int × Int × Int × Int × ByteArray × Int × Int
  s : ByteArray
  a : Int
  r : Int
  ps : List R82
  q : PS
  b : Bool
def db : TS U → Option A54 := orD (fun s => (dbN s).map fun (z1, z2, z3, z4, z5, y1, y2, y3, s1, s2, s3, q) => ⟨(z1, z2, z3, z4, z5, y1, y2, y3), s1, s2, s3, [], q, true⟩) (fun s => (dbR s).map fun (z1, z2, z3, z4, z5, y1, y2, y3, s1, s2, s3, ps, q) => ⟨(z1, z2, z3, z4, z5, y1, y2, y3), s1, s2, s3, ps, q, !ps.isEmpty⟩)
def Pre54b (q : PS) (z1 z2 z3 z4 z5 : Int) (y1 : ByteArray) (y2 y3 : Int) (b : Bool) : Prop := q.Ok ∧ (z1 = 0 ∧ z2 = 0 ∧ z3 = 0 ∧ z4 = 0 ∧ z5 = 0) ∧ (y1 = bz ∧ y2 = 0 ∧ y3 = 0) ∧ b = true
noncomputable instance (q : PS) (z1 z2 z3 z4 z5 : Int) (y1 : ByteArray) (y2 y3 : Int) (b : Bool) : Decidable (Pre54b q z1 z2 z3 z4 z5 y1 y2 y3 b) := Classical.propDecidable _
def varsP (q : PS) : PS × List R82 := varsL (q.left + 1) q []
theorem db_ok {s : TS U} {x : A54} (h : db s = some x) (hp : Pre54b x.q x.z.1 x.z.2.1 x.z.2.2.1 x.z.2.2.2.1 x.z.2.2.2.2.1 x.z.2.2.2.2.2.1 x.z.2.2.2.2.2.2.1 x.z.2.2.2.2.2.2.2 x.b) : s = S54b x.q x.s x.a x.r x.ps [] := by
  rcases orD_some h with h | h
  · rw [Option.map_eq_some_iff] at h
    obtain ⟨⟨z1, z2, z3, z4, z5, y1, y2, y3, s1, s2, s3, q⟩, h1, rfl⟩ := h
    obtain ⟨_, ⟨rfl, rfl, rfl, rfl, rfl⟩, ⟨rfl, rfl, rfl⟩, _⟩ := hp
    exact dbN_ok h1
  · rw [Option.map_eq_some_iff] at h
    obtain ⟨⟨z1, z2, z3, z4, z5, y1, y2, y3, s1, s2, s3, ps, q⟩, h1, rfl⟩ := h
    obtain ⟨_, ⟨rfl, rfl, rfl, rfl, rfl⟩, ⟨rfl, rfl, rfl⟩, hb⟩ := hp
    cases ps with
    | nil => cases hb
    | cons x l => exact dbR_ok h1
noncomputable def lc54b : LC U := .ofG db (fun x => Pre54b x.q x.z.1 x.z.2.1 x.z.2.2.1 x.z.2.2.2.1 x.z.2.2.2.2.1 x.z.2.2.2.2.2.1 x.z.2.2.2.2.2.2.1 x.z.2.2.2.2.2.2.2 x.b)
  (fun x K => lsp (varsP x.q).2 fun vs => lsp x.ps fun ps => K (.exit 2) (S54b (varsP x.q).1 x.s x.a x.r ps vs)) (fun _ => .exit 2)
  (fun x => S54b (varsP x.q).1 x.s x.a x.r x.ps (varsP x.q).2) fun x K => by rw [lsp_eq, lsp_eq]
noncomputable def lp54 : Lp U := lpL [(0, lc54), (2, lc54b)]
theorem lp54_ok : ∀ c, Try.f48.body = some c → LpOk X El an54 lp54 (loops c 0) := lpL_ok (by kernel_rfl) fun b L hm st p hs => by
  cases hm with
  | head =>
    obtain ⟨⟨z1, z2, z3, z4, z5, y1, y2, y3, s1, s2, s3, q⟩, hx, ⟨h1, ⟨rfl, rfl, rfl, rfl, rfl⟩, rfl, rfl, rfl, rfl⟩, rfl⟩ := LC.ofG_some (fun x K => lsp_eq _ _) hs
    obtain rfl := dl54_ok hx
    have h2 := h1.left_le
    have h4 := h1.len
    exact ⟨_, rounds54 _ s1 s2 _ q [] h1 (Nat.le_refl _) (by rw [List.length_nil]; omega)⟩
  | tail _ hm => cases hm with
    | head =>
      obtain ⟨x, hx, hp, rfl⟩ := LC.ofG_some (fun x K => by rw [lsp_eq, lsp_eq]) hs
      obtain rfl := db_ok hx hp
      have h1 := hp.1
      have h2 := h1.left_le
      have h4 := h1.len
      exact ⟨_, rounds54b _ _ _ _ _ _ x.q [] h1 (Nat.le_refl _) (by rw [List.length_nil]; omega)⟩
    | tail _ hm => cases hm
end Go.Proofs.Ytpkgikchphgfaaa.Fl

/- The references' parser: a function. -/
namespace Go.Proofs.Ytpkgikchphgfaaa.Fl
open Go Go.RowKit Go.Proofs.Ytpkgikchphgfaaa.Eng
set_option linter.unusedVariables false
set_option linter.unusedSimpArgs false
set_option maxRecDepth 20000
def wkF : Lw U := .a [.no, .a [.no, .no, .l .t82, .no, .l .t82, .l .t114]]
theorem e54 (p : PS) (a : Int) : (evFn X El an54 lp54 Try.f48 [] [p.tv, TV.v (Value.int IntKind.i64 a)]
  fun (o : List (TO X.U)) (v : TV X.U) => some (o, wkF.f v)) =
  if p.Ok then
  if p.name.fst.Ok then
    if Pre54 (p.name.fst.must (⟨#[40]⟩ : ByteArray)) 0 0 0 0 0 (⟨#[]⟩ : ByteArray) 0 0 0 then
      bif (declsP (p.name.fst.must (⟨#[40]⟩ : ByteArray))).snd.isEmpty then
        bif decide ((declsP (p.name.fst.must (⟨#[40]⟩ : ByteArray))).fst.Code = 0) then
          if (declsP (p.name.fst.must (⟨#[40]⟩ : ByteArray))).fst.Ok then
            if (declsP (p.name.fst.must (⟨#[40]⟩ : ByteArray))).fst.next.Ok then
              bif (declsP (p.name.fst.must (⟨#[40]⟩ : ByteArray))).fst.next.is (⟨#[58]⟩ : ByteArray) then
                if (declsP (p.name.fst.must (⟨#[40]⟩ : ByteArray))).fst.next.Ok then
                  if (declsP (p.name.fst.must (⟨#[40]⟩ : ByteArray))).fst.next.next.Ok then
                    if (declsP (p.name.fst.must (⟨#[40]⟩ : ByteArray))).fst.next.next.typ.fst.Ok then
                      if
                          Pre54b
                            ((declsP (p.name.fst.must (⟨#[40]⟩ : ByteArray))).fst.next.next.typ.fst.must (⟨#[123]⟩ : ByteArray))
                            0 0 0 0 0 bz 0 0 true then
                        bif
                            (varsP
                                  ((declsP (p.name.fst.must (⟨#[40]⟩ : ByteArray))).fst.next.next.typ.fst.must
                                    (⟨#[123]⟩ : ByteArray))).snd.isEmpty then
                          if
                              (varsP
                                    ((declsP (p.name.fst.must (⟨#[40]⟩ : ByteArray))).fst.next.next.typ.fst.must
                                      (⟨#[123]⟩ : ByteArray))).fst.Ok then
                            some
                              ([],
                                TV.tup
                                  [(varsP
                                              ((declsP (p.name.fst.must (⟨#[40]⟩ : ByteArray))).fst.next.next.typ.fst.must
                                                (⟨#[123]⟩ : ByteArray))).fst.stmts.fst.tv,
                                    TV.agg
                                      [TV.v (Value.string p.name.snd), TV.v (Value.int IntKind.i64 a), TV.lst C.t82 [],
                                        TV.v
                                          (Value.int IntKind.i64
                                            (declsP (p.name.fst.must (⟨#[40]⟩ : ByteArray))).fst.next.next.typ.snd),
                                        TV.lst C.t82 [],
                                        TV.lst C.t114
                                          (varsP
                                                  ((declsP
                                                                  (p.name.fst.must
                                                                    (⟨#[40]⟩ : ByteArray))).fst.next.next.typ.fst.must
                                                    (⟨#[123]⟩ : ByteArray))).fst.stmts.snd]])
                          else none
                        else
                          (unc
                                (varsP
                                    ((declsP (p.name.fst.must (⟨#[40]⟩ : ByteArray))).fst.next.next.typ.fst.must
                                      (⟨#[123]⟩ : ByteArray))).snd).bind
                            fun (x : R82 × List R82) =>
                            if
                                (varsP
                                      ((declsP (p.name.fst.must (⟨#[40]⟩ : ByteArray))).fst.next.next.typ.fst.must
                                        (⟨#[123]⟩ : ByteArray))).fst.Ok then
                              some
                                ([],
                                  TV.tup
                                    [(varsP
                                                ((declsP (p.name.fst.must (⟨#[40]⟩ : ByteArray))).fst.next.next.typ.fst.must
                                                  (⟨#[123]⟩ : ByteArray))).fst.stmts.fst.tv,
                                      TV.agg
                                        [TV.v (Value.string p.name.snd), TV.v (Value.int IntKind.i64 a),
                                          TV.lst C.t82 [],
                                          TV.v
                                            (Value.int IntKind.i64
                                              (declsP (p.name.fst.must (⟨#[40]⟩ : ByteArray))).fst.next.next.typ.snd),
                                          TV.lst C.t82 (x.fst :: x.snd),
                                          TV.lst C.t114
                                            (varsP
                                                    ((declsP
                                                                    (p.name.fst.must
                                                                      (⟨#[40]⟩ : ByteArray))).fst.next.next.typ.fst.must
                                                      (⟨#[123]⟩ : ByteArray))).fst.stmts.snd]])
                            else none
                      else none
                    else none
                  else none
                else none
              else
                if (declsP (p.name.fst.must (⟨#[40]⟩ : ByteArray))).fst.next.Ok then
                  if
                      Pre54b ((declsP (p.name.fst.must (⟨#[40]⟩ : ByteArray))).fst.next.must (⟨#[123]⟩ : ByteArray)) 0 0 0 0 0
                        bz 0 0 true then
                    bif
                        (varsP
                              ((declsP (p.name.fst.must (⟨#[40]⟩ : ByteArray))).fst.next.must
                                (⟨#[123]⟩ : ByteArray))).snd.isEmpty then
                      if
                          (varsP
                                ((declsP (p.name.fst.must (⟨#[40]⟩ : ByteArray))).fst.next.must
                                  (⟨#[123]⟩ : ByteArray))).fst.Ok then
                        some
                          ([],
                            TV.tup
                              [(varsP
                                          ((declsP (p.name.fst.must (⟨#[40]⟩ : ByteArray))).fst.next.must
                                            (⟨#[123]⟩ : ByteArray))).fst.stmts.fst.tv,
                                TV.agg
                                  [TV.v (Value.string p.name.snd), TV.v (Value.int IntKind.i64 a), TV.lst C.t82 [],
                                    TV.v (Value.int IntKind.i64 0), TV.lst C.t82 [],
                                    TV.lst C.t114
                                      (varsP
                                              ((declsP (p.name.fst.must (⟨#[40]⟩ : ByteArray))).fst.next.must
                                                (⟨#[123]⟩ : ByteArray))).fst.stmts.snd]])
                      else none
                    else
                      (unc
                            (varsP
                                ((declsP (p.name.fst.must (⟨#[40]⟩ : ByteArray))).fst.next.must
                                  (⟨#[123]⟩ : ByteArray))).snd).bind
                        fun (x : R82 × List R82) =>
                        if
                            (varsP
                                  ((declsP (p.name.fst.must (⟨#[40]⟩ : ByteArray))).fst.next.must
                                    (⟨#[123]⟩ : ByteArray))).fst.Ok then
                          some
                            ([],
                              TV.tup
                                [(varsP
                                            ((declsP (p.name.fst.must (⟨#[40]⟩ : ByteArray))).fst.next.must
                                              (⟨#[123]⟩ : ByteArray))).fst.stmts.fst.tv,
                                  TV.agg
                                    [TV.v (Value.string p.name.snd), TV.v (Value.int IntKind.i64 a), TV.lst C.t82 [],
                                      TV.v (Value.int IntKind.i64 0), TV.lst C.t82 (x.fst :: x.snd),
                                      TV.lst C.t114
                                        (varsP
                                                ((declsP (p.name.fst.must (⟨#[40]⟩ : ByteArray))).fst.next.must
                                                  (⟨#[123]⟩ : ByteArray))).fst.stmts.snd]])
                        else none
                  else none
                else none
            else none
          else none
        else
          if (declsP (p.name.fst.must (⟨#[40]⟩ : ByteArray))).fst.Ok then
            bif (declsP (p.name.fst.must (⟨#[40]⟩ : ByteArray))).fst.is (⟨#[58]⟩ : ByteArray) then
              if (declsP (p.name.fst.must (⟨#[40]⟩ : ByteArray))).fst.Ok then
                if (declsP (p.name.fst.must (⟨#[40]⟩ : ByteArray))).fst.next.Ok then
                  if (declsP (p.name.fst.must (⟨#[40]⟩ : ByteArray))).fst.next.typ.fst.Ok then
                    if
                        Pre54b ((declsP (p.name.fst.must (⟨#[40]⟩ : ByteArray))).fst.next.typ.fst.must (⟨#[123]⟩ : ByteArray)) 0
                          0 0 0 0 bz 0 0 true then
                      bif
                          (varsP
                                ((declsP (p.name.fst.must (⟨#[40]⟩ : ByteArray))).fst.next.typ.fst.must
                                  (⟨#[123]⟩ : ByteArray))).snd.isEmpty then
                        if
                            (varsP
                                  ((declsP (p.name.fst.must (⟨#[40]⟩ : ByteArray))).fst.next.typ.fst.must
                                    (⟨#[123]⟩ : ByteArray))).fst.Ok then
                          some
                            ([],
                              TV.tup
                                [(varsP
                                            ((declsP (p.name.fst.must (⟨#[40]⟩ : ByteArray))).fst.next.typ.fst.must
                                              (⟨#[123]⟩ : ByteArray))).fst.stmts.fst.tv,
                                  TV.agg
                                    [TV.v (Value.string p.name.snd), TV.v (Value.int IntKind.i64 a), TV.lst C.t82 [],
                                      TV.v
                                        (Value.int IntKind.i64
                                          (declsP (p.name.fst.must (⟨#[40]⟩ : ByteArray))).fst.next.typ.snd),
                                      TV.lst C.t82 [],
                                      TV.lst C.t114
                                        (varsP
                                                ((declsP (p.name.fst.must (⟨#[40]⟩ : ByteArray))).fst.next.typ.fst.must
                                                  (⟨#[123]⟩ : ByteArray))).fst.stmts.snd]])
                        else none
                      else
                        (unc
                              (varsP
                                  ((declsP (p.name.fst.must (⟨#[40]⟩ : ByteArray))).fst.next.typ.fst.must
                                    (⟨#[123]⟩ : ByteArray))).snd).bind
                          fun (x : R82 × List R82) =>
                          if
                              (varsP
                                    ((declsP (p.name.fst.must (⟨#[40]⟩ : ByteArray))).fst.next.typ.fst.must
                                      (⟨#[123]⟩ : ByteArray))).fst.Ok then
                            some
                              ([],
                                TV.tup
                                  [(varsP
                                              ((declsP (p.name.fst.must (⟨#[40]⟩ : ByteArray))).fst.next.typ.fst.must
                                                (⟨#[123]⟩ : ByteArray))).fst.stmts.fst.tv,
                                    TV.agg
                                      [TV.v (Value.string p.name.snd), TV.v (Value.int IntKind.i64 a), TV.lst C.t82 [],
                                        TV.v
                                          (Value.int IntKind.i64
                                            (declsP (p.name.fst.must (⟨#[40]⟩ : ByteArray))).fst.next.typ.snd),
                                        TV.lst C.t82 (x.fst :: x.snd),
                                        TV.lst C.t114
                                          (varsP
                                                  ((declsP (p.name.fst.must (⟨#[40]⟩ : ByteArray))).fst.next.typ.fst.must
                                                    (⟨#[123]⟩ : ByteArray))).fst.stmts.snd]])
                          else none
                    else none
                  else none
                else none
              else none
            else
              if (declsP (p.name.fst.must (⟨#[40]⟩ : ByteArray))).fst.Ok then
                if
                    Pre54b ((declsP (p.name.fst.must (⟨#[40]⟩ : ByteArray))).fst.must (⟨#[123]⟩ : ByteArray)) 0 0 0 0 0 bz 0 0
                      true then
                  bif
                      (varsP
                            ((declsP (p.name.fst.must (⟨#[40]⟩ : ByteArray))).fst.must (⟨#[123]⟩ : ByteArray))).snd.isEmpty then
                    if (varsP ((declsP (p.name.fst.must (⟨#[40]⟩ : ByteArray))).fst.must (⟨#[123]⟩ : ByteArray))).fst.Ok then
                      some
                        ([],
                          TV.tup
                            [(varsP
                                        ((declsP (p.name.fst.must (⟨#[40]⟩ : ByteArray))).fst.must
                                          (⟨#[123]⟩ : ByteArray))).fst.stmts.fst.tv,
                              TV.agg
                                [TV.v (Value.string p.name.snd), TV.v (Value.int IntKind.i64 a), TV.lst C.t82 [],
                                  TV.v (Value.int IntKind.i64 0), TV.lst C.t82 [],
                                  TV.lst C.t114
                                    (varsP
                                            ((declsP (p.name.fst.must (⟨#[40]⟩ : ByteArray))).fst.must
                                              (⟨#[123]⟩ : ByteArray))).fst.stmts.snd]])
                    else none
                  else
                    (unc (varsP ((declsP (p.name.fst.must (⟨#[40]⟩ : ByteArray))).fst.must (⟨#[123]⟩ : ByteArray))).snd).bind
                      fun (x : R82 × List R82) =>
                      if (varsP ((declsP (p.name.fst.must (⟨#[40]⟩ : ByteArray))).fst.must (⟨#[123]⟩ : ByteArray))).fst.Ok then
                        some
                          ([],
                            TV.tup
                              [(varsP
                                          ((declsP (p.name.fst.must (⟨#[40]⟩ : ByteArray))).fst.must
                                            (⟨#[123]⟩ : ByteArray))).fst.stmts.fst.tv,
                                TV.agg
                                  [TV.v (Value.string p.name.snd), TV.v (Value.int IntKind.i64 a), TV.lst C.t82 [],
                                    TV.v (Value.int IntKind.i64 0), TV.lst C.t82 (x.fst :: x.snd),
                                    TV.lst C.t114
                                      (varsP
                                              ((declsP (p.name.fst.must (⟨#[40]⟩ : ByteArray))).fst.must
                                                (⟨#[123]⟩ : ByteArray))).fst.stmts.snd]])
                      else none
                else none
              else none
          else none
      else
        (unc (declsP (p.name.fst.must (⟨#[40]⟩ : ByteArray))).snd).bind fun (x : R82 × List R82) =>
          bif decide ((declsP (p.name.fst.must (⟨#[40]⟩ : ByteArray))).fst.Code = 0) then
            if (declsP (p.name.fst.must (⟨#[40]⟩ : ByteArray))).fst.Ok then
              if (declsP (p.name.fst.must (⟨#[40]⟩ : ByteArray))).fst.next.Ok then
                bif (declsP (p.name.fst.must (⟨#[40]⟩ : ByteArray))).fst.next.is (⟨#[58]⟩ : ByteArray) then
                  if (declsP (p.name.fst.must (⟨#[40]⟩ : ByteArray))).fst.next.Ok then
                    if (declsP (p.name.fst.must (⟨#[40]⟩ : ByteArray))).fst.next.next.Ok then
                      if (declsP (p.name.fst.must (⟨#[40]⟩ : ByteArray))).fst.next.next.typ.fst.Ok then
                        if
                            Pre54b
                              ((declsP (p.name.fst.must (⟨#[40]⟩ : ByteArray))).fst.next.next.typ.fst.must
                                (⟨#[123]⟩ : ByteArray))
                              0 0 0 0 0 bz 0 0 !(x.fst :: x.snd).isEmpty then
                          bif
                              (varsP
                                    ((declsP (p.name.fst.must (⟨#[40]⟩ : ByteArray))).fst.next.next.typ.fst.must
                                      (⟨#[123]⟩ : ByteArray))).snd.isEmpty then
                            if
                                (varsP
                                      ((declsP (p.name.fst.must (⟨#[40]⟩ : ByteArray))).fst.next.next.typ.fst.must
                                        (⟨#[123]⟩ : ByteArray))).fst.Ok then
                              some
                                ([],
                                  TV.tup
                                    [(varsP
                                                ((declsP (p.name.fst.must (⟨#[40]⟩ : ByteArray))).fst.next.next.typ.fst.must
                                                  (⟨#[123]⟩ : ByteArray))).fst.stmts.fst.tv,
                                      TV.agg
                                        [TV.v (Value.string p.name.snd), TV.v (Value.int IntKind.i64 a),
                                          TV.lst C.t82 (x.fst :: x.snd),
                                          TV.v
                                            (Value.int IntKind.i64
                                              (declsP (p.name.fst.must (⟨#[40]⟩ : ByteArray))).fst.next.next.typ.snd),
                                          TV.lst C.t82 [],
                                          TV.lst C.t114
                                            (varsP
                                                    ((declsP
                                                                    (p.name.fst.must
                                                                      (⟨#[40]⟩ : ByteArray))).fst.next.next.typ.fst.must
                                                      (⟨#[123]⟩ : ByteArray))).fst.stmts.snd]])
                            else none
                          else
                            (unc
                                  (varsP
                                      ((declsP (p.name.fst.must (⟨#[40]⟩ : ByteArray))).fst.next.next.typ.fst.must
                                        (⟨#[123]⟩ : ByteArray))).snd).bind
                              fun (x_1 : R82 × List R82) =>
                              if
                                  (varsP
                                        ((declsP (p.name.fst.must (⟨#[40]⟩ : ByteArray))).fst.next.next.typ.fst.must
                                          (⟨#[123]⟩ : ByteArray))).fst.Ok then
                                some
                                  ([],
                                    TV.tup
                                      [(varsP
                                                  ((declsP
                                                                  (p.name.fst.must
                                                                    (⟨#[40]⟩ : ByteArray))).fst.next.next.typ.fst.must
                                                    (⟨#[123]⟩ : ByteArray))).fst.stmts.fst.tv,
                                        TV.agg
                                          [TV.v (Value.string p.name.snd), TV.v (Value.int IntKind.i64 a),
                                            TV.lst C.t82 (x.fst :: x.snd),
                                            TV.v
                                              (Value.int IntKind.i64
                                                (declsP (p.name.fst.must (⟨#[40]⟩ : ByteArray))).fst.next.next.typ.snd),
                                            TV.lst C.t82 (x_1.fst :: x_1.snd),
                                            TV.lst C.t114
                                              (varsP
                                                      ((declsP
                                                                      (p.name.fst.must
                                                                        (⟨#[40]⟩ : ByteArray))).fst.next.next.typ.fst.must
                                                        (⟨#[123]⟩ : ByteArray))).fst.stmts.snd]])
                              else none
                        else none
                      else none
                    else none
                  else none
                else
                  if (declsP (p.name.fst.must (⟨#[40]⟩ : ByteArray))).fst.next.Ok then
                    if
                        Pre54b ((declsP (p.name.fst.must (⟨#[40]⟩ : ByteArray))).fst.next.must (⟨#[123]⟩ : ByteArray)) 0 0 0 0 0
                          bz 0 0 !(x.fst :: x.snd).isEmpty then
                      bif
                          (varsP
                                ((declsP (p.name.fst.must (⟨#[40]⟩ : ByteArray))).fst.next.must
                                  (⟨#[123]⟩ : ByteArray))).snd.isEmpty then
                        if
                            (varsP
                                  ((declsP (p.name.fst.must (⟨#[40]⟩ : ByteArray))).fst.next.must
                                    (⟨#[123]⟩ : ByteArray))).fst.Ok then
                          some
                            ([],
                              TV.tup
                                [(varsP
                                            ((declsP (p.name.fst.must (⟨#[40]⟩ : ByteArray))).fst.next.must
                                              (⟨#[123]⟩ : ByteArray))).fst.stmts.fst.tv,
                                  TV.agg
                                    [TV.v (Value.string p.name.snd), TV.v (Value.int IntKind.i64 a),
                                      TV.lst C.t82 (x.fst :: x.snd), TV.v (Value.int IntKind.i64 0), TV.lst C.t82 [],
                                      TV.lst C.t114
                                        (varsP
                                                ((declsP (p.name.fst.must (⟨#[40]⟩ : ByteArray))).fst.next.must
                                                  (⟨#[123]⟩ : ByteArray))).fst.stmts.snd]])
                        else none
                      else
                        (unc
                              (varsP
                                  ((declsP (p.name.fst.must (⟨#[40]⟩ : ByteArray))).fst.next.must
                                    (⟨#[123]⟩ : ByteArray))).snd).bind
                          fun (x_1 : R82 × List R82) =>
                          if
                              (varsP
                                    ((declsP (p.name.fst.must (⟨#[40]⟩ : ByteArray))).fst.next.must
                                      (⟨#[123]⟩ : ByteArray))).fst.Ok then
                            some
                              ([],
                                TV.tup
                                  [(varsP
                                              ((declsP (p.name.fst.must (⟨#[40]⟩ : ByteArray))).fst.next.must
                                                (⟨#[123]⟩ : ByteArray))).fst.stmts.fst.tv,
                                    TV.agg
                                      [TV.v (Value.string p.name.snd), TV.v (Value.int IntKind.i64 a),
                                        TV.lst C.t82 (x.fst :: x.snd), TV.v (Value.int IntKind.i64 0),
                                        TV.lst C.t82 (x_1.fst :: x_1.snd),
                                        TV.lst C.t114
                                          (varsP
                                                  ((declsP (p.name.fst.must (⟨#[40]⟩ : ByteArray))).fst.next.must
                                                    (⟨#[123]⟩ : ByteArray))).fst.stmts.snd]])
                          else none
                    else none
                  else none
              else none
            else none
          else
            if (declsP (p.name.fst.must (⟨#[40]⟩ : ByteArray))).fst.Ok then
              bif (declsP (p.name.fst.must (⟨#[40]⟩ : ByteArray))).fst.is (⟨#[58]⟩ : ByteArray) then
                if (declsP (p.name.fst.must (⟨#[40]⟩ : ByteArray))).fst.Ok then
                  if (declsP (p.name.fst.must (⟨#[40]⟩ : ByteArray))).fst.next.Ok then
                    if (declsP (p.name.fst.must (⟨#[40]⟩ : ByteArray))).fst.next.typ.fst.Ok then
                      if
                          Pre54b ((declsP (p.name.fst.must (⟨#[40]⟩ : ByteArray))).fst.next.typ.fst.must (⟨#[123]⟩ : ByteArray))
                            0 0 0 0 0 bz 0 0 !(x.fst :: x.snd).isEmpty then
                        bif
                            (varsP
                                  ((declsP (p.name.fst.must (⟨#[40]⟩ : ByteArray))).fst.next.typ.fst.must
                                    (⟨#[123]⟩ : ByteArray))).snd.isEmpty then
                          if
                              (varsP
                                    ((declsP (p.name.fst.must (⟨#[40]⟩ : ByteArray))).fst.next.typ.fst.must
                                      (⟨#[123]⟩ : ByteArray))).fst.Ok then
                            some
                              ([],
                                TV.tup
                                  [(varsP
                                              ((declsP (p.name.fst.must (⟨#[40]⟩ : ByteArray))).fst.next.typ.fst.must
                                                (⟨#[123]⟩ : ByteArray))).fst.stmts.fst.tv,
                                    TV.agg
                                      [TV.v (Value.string p.name.snd), TV.v (Value.int IntKind.i64 a),
                                        TV.lst C.t82 (x.fst :: x.snd),
                                        TV.v
                                          (Value.int IntKind.i64
                                            (declsP (p.name.fst.must (⟨#[40]⟩ : ByteArray))).fst.next.typ.snd),
                                        TV.lst C.t82 [],
                                        TV.lst C.t114
                                          (varsP
                                                  ((declsP (p.name.fst.must (⟨#[40]⟩ : ByteArray))).fst.next.typ.fst.must
                                                    (⟨#[123]⟩ : ByteArray))).fst.stmts.snd]])
                          else none
                        else
                          (unc
                                (varsP
                                    ((declsP (p.name.fst.must (⟨#[40]⟩ : ByteArray))).fst.next.typ.fst.must
                                      (⟨#[123]⟩ : ByteArray))).snd).bind
                            fun (x_1 : R82 × List R82) =>
                            if
                                (varsP
                                      ((declsP (p.name.fst.must (⟨#[40]⟩ : ByteArray))).fst.next.typ.fst.must
                                        (⟨#[123]⟩ : ByteArray))).fst.Ok then
                              some
                                ([],
                                  TV.tup
                                    [(varsP
                                                ((declsP (p.name.fst.must (⟨#[40]⟩ : ByteArray))).fst.next.typ.fst.must
                                                  (⟨#[123]⟩ : ByteArray))).fst.stmts.fst.tv,
                                      TV.agg
                                        [TV.v (Value.string p.name.snd), TV.v (Value.int IntKind.i64 a),
                                          TV.lst C.t82 (x.fst :: x.snd),
                                          TV.v
                                            (Value.int IntKind.i64
                                              (declsP (p.name.fst.must (⟨#[40]⟩ : ByteArray))).fst.next.typ.snd),
                                          TV.lst C.t82 (x_1.fst :: x_1.snd),
                                          TV.lst C.t114
                                            (varsP
                                                    ((declsP (p.name.fst.must (⟨#[40]⟩ : ByteArray))).fst.next.typ.fst.must
                                                      (⟨#[123]⟩ : ByteArray))).fst.stmts.snd]])
                            else none
                      else none
                    else none
                  else none
                else none
              else
                if (declsP (p.name.fst.must (⟨#[40]⟩ : ByteArray))).fst.Ok then
                  if
                      Pre54b ((declsP (p.name.fst.must (⟨#[40]⟩ : ByteArray))).fst.must (⟨#[123]⟩ : ByteArray)) 0 0 0 0 0 bz 0 0
                        !(x.fst :: x.snd).isEmpty then
                    bif
                        (varsP
                              ((declsP (p.name.fst.must (⟨#[40]⟩ : ByteArray))).fst.must
                                (⟨#[123]⟩ : ByteArray))).snd.isEmpty then
                      if (varsP ((declsP (p.name.fst.must (⟨#[40]⟩ : ByteArray))).fst.must (⟨#[123]⟩ : ByteArray))).fst.Ok then
                        some
                          ([],
                            TV.tup
                              [(varsP
                                          ((declsP (p.name.fst.must (⟨#[40]⟩ : ByteArray))).fst.must
                                            (⟨#[123]⟩ : ByteArray))).fst.stmts.fst.tv,
                                TV.agg
                                  [TV.v (Value.string p.name.snd), TV.v (Value.int IntKind.i64 a),
                                    TV.lst C.t82 (x.fst :: x.snd), TV.v (Value.int IntKind.i64 0), TV.lst C.t82 [],
                                    TV.lst C.t114
                                      (varsP
                                              ((declsP (p.name.fst.must (⟨#[40]⟩ : ByteArray))).fst.must
                                                (⟨#[123]⟩ : ByteArray))).fst.stmts.snd]])
                      else none
                    else
                      (unc (varsP ((declsP (p.name.fst.must (⟨#[40]⟩ : ByteArray))).fst.must (⟨#[123]⟩ : ByteArray))).snd).bind
                        fun (x_1 : R82 × List R82) =>
                        if
                            (varsP
                                  ((declsP (p.name.fst.must (⟨#[40]⟩ : ByteArray))).fst.must
                                    (⟨#[123]⟩ : ByteArray))).fst.Ok then
                          some
                            ([],
                              TV.tup
                                [(varsP
                                            ((declsP (p.name.fst.must (⟨#[40]⟩ : ByteArray))).fst.must
                                              (⟨#[123]⟩ : ByteArray))).fst.stmts.fst.tv,
                                  TV.agg
                                    [TV.v (Value.string p.name.snd), TV.v (Value.int IntKind.i64 a),
                                      TV.lst C.t82 (x.fst :: x.snd), TV.v (Value.int IntKind.i64 0),
                                      TV.lst C.t82 (x_1.fst :: x_1.snd),
                                      TV.lst C.t114
                                        (varsP
                                                ((declsP (p.name.fst.must (⟨#[40]⟩ : ByteArray))).fst.must
                                                  (⟨#[123]⟩ : ByteArray))).fst.stmts.snd]])
                        else none
                  else none
                else none
            else none
    else none
  else none
else none := by kernel_rfl
end Go.Proofs.Ytpkgikchphgfaaa.Fl

/- The references' parser: a function, proved. -/
namespace Go.Proofs.Ytpkgikchphgfaaa.Fl
open Go Go.RowKit Go.Proofs.Ytpkgikchphgfaaa.Eng
set_option linter.unusedVariables false
set_option linter.unusedSimpArgs false
set_option maxRecDepth 20000
theorem unc_cons {α : Type} (x : α) (l : List α) : unc (x :: l) = some (x, l) := rfl
theorem declsP_ok {q : PS} (h : q.Ok) : (declsP q).1.Ok := (declsL_ok _ q [] h).1
theorem declsP_cnt {q : PS} (h : q.Ok) : (declsP q).2.length + (declsP q).1.left ≤ q.left := by
  have := (declsL_ok (q.left + 1) q [] h).2
  rw [List.length_nil, Nat.zero_add] at this
  exact this
theorem varsP_ok {q : PS} (h : q.Ok) : (varsP q).1.Ok := (varsL_ok _ q [] h).1
theorem varsP_cnt {q : PS} (h : q.Ok) : (varsP q).2.length + (varsP q).1.left ≤ q.left := by
  have := (varsL_ok (q.left + 1) q [] h).2
  rw [List.length_nil, Nat.zero_add] at this
  exact this
theorem pre54 {q : PS} (h : q.Ok) : Pre54 q 0 0 0 0 0 ⟨#[]⟩ 0 0 0 := ⟨h, ⟨rfl, rfl, rfl, rfl, rfl⟩, rfl, rfl, rfl, rfl⟩
theorem pre54b {q : PS} (h : q.Ok) : Pre54b q 0 0 0 0 0 bz 0 0 true := ⟨h, ⟨rfl, rfl, rfl, rfl, rfl⟩, ⟨rfl, rfl, rfl⟩, rfl⟩
def fnA (p : PS) : PS × List R82 := declsP (p.name.1.must ⟨#[40]⟩)
def fnB (p : PS) : PS := cond (decide ((fnA p).1.Code = 0)) (fnA p).1.next (fnA p).1
def fnC (p : PS) : PS × Int := cond ((fnB p).is ⟨#[58]⟩) (fnB p).next.typ (fnB p, 0)
def fnD (p : PS) : PS × List R82 := varsP ((fnC p).1.must ⟨#[123]⟩)
def PS.fn (p : PS) (a : Int) : PS × R90 := ((fnD p).1.stmts.1, ⟨p.name.2, a, (fnA p).2, (fnC p).2, (fnD p).2, (fnD p).1.stmts.2⟩)
def fnV (f : R90) : TV U := .agg [.v (.string f.Name), .v (.int .i64 f.At), .lst .t82 f.Params, .v (.int .i64 f.Ret), .lst .t82 f.Vars, .lst .t114 f.Body]
def dPi (objs : List (TO U)) (args : List (TV U)) : Option (PS × Int) := match objs, args with
  | [], [a0, a1] =>
    match a0 with
    | .agg [q0, q1, q2, q3, q4, q5] =>
      match q0 with
      | .lst .t53 p_L =>
        match q1 with
        | .v (.int .i64 p_At) =>
          match q2 with
          | .v (.int .i64 p_Deep) =>
            match q3 with
            | .v (.int .i64 p_Many) =>
              match q4 with
              | .v (.int .i64 p_Code) =>
                match q5 with
                | .v (.int .i64 p_FAt) =>
                  match a1 with
                  | .v (.int .i64 a) =>
                    some ((⟨p_L, p_At, p_Deep, p_Many, p_Code, p_FAt⟩ : PS), a)
                  | _ => none
                | _ => none
              | _ => none
            | _ => none
          | _ => none
        | _ => none
      | _ => none
    | _ => none
  | _, _ => none
theorem dPi_ok {objs : List (TO U)} {args : List (TV U)} {p : PS} {a : Int} (h : dPi objs args = some (p, a)) : objs = [] ∧ args = [p.tv, .v (.int .i64 a)] := by
  unfold dPi at h
  repeat' split at h
  all_goals first | (cases h; done) | (cases h; exact ⟨rfl, rfl⟩)
noncomputable def sFn : Spc U := .of dPi (fun x => x.1.Ok) (fun _ => []) fun x => .tup [(x.1.fn x.2).1.tv, fnV (x.1.fn x.2).2]
theorem sFn_ok : SpecOk Try.prog 48 sFn := by
  refine fn_okw wkF X_ok mixed El_ok an54 lp54 Try.func48 (by kernel_rfl) (by kernel_rfl) lp54_ok fun objs args x hp h => ?_
  obtain ⟨p, a⟩ := x
  obtain ⟨rfl, rfl⟩ := dPi_ok hp
  dsimp only at h ⊢
  have hA := declsP_ok (h.name.must ⟨#[40]⟩)
  refine (e54 p a).trans ?_
  unfold PS.fn fnD fnC fnB fnA fnV
  simp only [h, h.name, pre54 (h.name.must ⟨#[40]⟩), hA, if_true]
  generalize declsP (p.name.1.must ⟨#[40]⟩) = x at hA ⊢
  obtain ⟨q, ps⟩ := x
  dsimp only at hA ⊢
  have g1 := hA.next
  have g2 := hA.next.next
  have g3 := PS.Ok.typ hA.next.next
  have g4 := PS.Ok.typ hA.next
  cases ps <;> cases hc : decide (q.Code = 0)
  all_goals simp only [cond_true, cond_false, List.isEmpty_nil, List.isEmpty_cons, unc_cons, Option.bind_some]
  all_goals cases q.next.is ⟨#[58]⟩ <;> cases q.is ⟨#[58]⟩
  all_goals simp only [cond_true, cond_false, Bool.not_false, hA, g1, g2, g3, g4, pre54b (hA.must ⟨#[123]⟩), pre54b (g1.must ⟨#[123]⟩), pre54b (g3.must ⟨#[123]⟩), pre54b (g4.must ⟨#[123]⟩), varsP_ok (hA.must ⟨#[123]⟩), varsP_ok (g1.must ⟨#[123]⟩), varsP_ok (g3.must ⟨#[123]⟩), varsP_ok (g4.must ⟨#[123]⟩), if_true]
  all_goals (generalize varsP _ = v; obtain ⟨v1, vs⟩ := v; cases vs <;> rfl)
end Go.Proofs.Ytpkgikchphgfaaa.Fl

/- The references' lexer: kept names. -/
namespace Go.Proofs.Ytpkgikchphgfaaa.Fl
open Go Go.RowKit Go.Proofs.Ytpkgikchphgfaaa.Eng
set_option linter.unusedVariables false
set_option linter.unusedSimpArgs false
set_option maxRecDepth 20000
def hasW (s : ByteArray) (l : List ByteArray) : Bool := l.any fun w => List.instBEq.1 w.toList s.toList
def kept (s : ByteArray) : Bool := hasW s wds
theorem wds_len : wds.length = 17 := by decide
theorem round31 (lp : Lp U) (s : ByteArray) : ∀ (N : Nat) (v : Int), 0 ≤ v → 17 ≤ v + N → v ≤ 17 →
    fnLoop X E31 an31 lp Try.f93 0 (N + 1) (g31_S0 s v) = some (cond (hasW s (wds.drop v.toNat)) (Exit.ret, mkS 18 [(2, .v (.bool true))] [] 0) (.exit 0, mkS 18 [] [] 0)) := by
  intro N
  induction N with
  | zero =>
    intro v h0 h1 h2
    have hv : ¬ v < (wds.length : Int) := by rw [wds_len]; omega
    have e : wds.drop v.toNat = [] := List.drop_eq_nil_of_le (by rw [wds_len]; omega)
    rw [g31_e0, e]
    simp only [hv, decide_false, cond_false]
    rfl
  | succ N ih =>
    intro v h0 h1 h2
    rw [g31_e0]
    by_cases hv : v < (wds.length : Int)
    · have hlt : v.toNat < wds.length := by omega
      have hg : getI wds v = some wds[v.toNat] := by unfold getI; rw [if_pos h0]; exact List.getElem?_eq_getElem hlt
      have hd : wds.drop v.toNat = wds[v.toNat] :: wds.drop (v.toNat + 1) := List.drop_eq_getElem_cons hlt
      have hw : IntKind.i64.wrap (v + 1) = v + 1 := wrap_i64 (by omega) (by omega)
      rw [wds_len] at hv
      rw [hg, hd, hw, ih (v + 1) (by omega) (by omega) (by omega), show (v + 1).toNat = v.toNat + 1 by omega]
      have hv' : v < (wds.length : Int) := by rw [wds_len]; exact hv
      simp only [hv', decide_true, cond_true, Option.bind_some]
      generalize wds[v.toNat] = z
      have e : hasW s (z :: wds.drop (v.toNat + 1)) = (List.instBEq.1 z.toList s.toList || hasW s (wds.drop (v.toNat + 1))) := rfl
      rw [e]
      cases List.instBEq.1 z.toList s.toList <;> rfl
    · have e : wds.drop v.toNat = [] := List.drop_eq_nil_of_le (by omega)
      rw [e]
      simp only [hv, decide_false, cond_false]
      rfl
def dl31 (s : TS U) : Option (ByteArray × List ByteArray × Int) := match told s 18 [0, 3, 4] 0, s.objs with
  | some [a0, a1, a2], [] =>
    match a0 with
    | .v (.string b) =>
      match a1 with
      | .lst .str l =>
        match a2 with
        | .v (.int .i64 v) =>
          some (b, l, v)
        | _ => none
      | _ => none
    | _ => none
  | _, _ => none
theorem dl31_ok {s : TS U} {b : ByteArray} {l : List ByteArray} {v : Int} (h : dl31 s = some (b, l, v)) : s = mkS (U := U) 18 ([0, 3, 4].zip ([.v (.string b), .lst .str l, .v (.int .i64 v)] : List (TV U))) ([] : List (TO U)) 0 := by
  unfold dl31 at h
  split at h <;> try (cases h; done)
  rename_i ht ho
  have hs := told_ok ht
  rw [ho] at hs
  repeat' split at h
  all_goals first | (cases h; done) | (cases h; exact hs)
def lc31 : LC U := .of2 dl31 (fun x => x.2.1 = wds ∧ x.2.2 = 0) (fun x => kept x.1) .ret (fun x => mkS 18 [(2, .v (.bool true))] [] 0) (.exit 0) (fun x => mkS 18 [] [] 0)
theorem lp31_ok : ∀ c, Try.f93.body = some c → LpOk X E31 an31 (lpL [(0, lc31)]) (loops c 0) := lpL_ok (by kernel_rfl) fun b L hm st p hs => by
  cases hm with
  | tail _ h => cases h
  | head =>
    obtain ⟨⟨s, l, v⟩, hx, ⟨hl, hv⟩, rfl⟩ := LC.of2_some hs
    obtain rfl := dl31_ok hx
    dsimp only at hl hv ⊢
    subst hl hv
    exact ⟨18, round31 _ s 17 0 (by decide) (by decide) (by decide)⟩
theorem e31 (s : ByteArray) : evFn X E31 an31 (lpL [(0, lc31)]) Try.f93 [] [.v (.string s)] (fun o v => some (o, v)) = if wds = wds ∧ (0 : Int) = 0 then cond (kept s) (some ([], .v (.bool true))) (some ([], .v (.bool false))) else none := by kernel_rfl
def dstr (objs : List (TO U)) (args : List (TV U)) : Option (ByteArray) := match objs, args with
  | [], [a0] =>
    match a0 with
    | .v (.string s) =>
      some s
    | _ => none
  | _, _ => none
theorem dstr_ok {objs : List (TO U)} {args : List (TV U)} {s : ByteArray} (h : dstr objs args = some s) : objs = [] ∧ args = [.v (.string s)] := by
  unfold dstr at h
  repeat' split at h
  all_goals first | (cases h; done) | (cases h; exact ⟨rfl, rfl⟩)
def sKept : Spc U := .of dstr (fun x => True) (fun x => []) fun x => .v (.bool (kept x))
theorem sKept_ok : SpecOk Try.prog 93 sKept := by
  refine fn_ok X_ok mixed E31_ok an31 (lpL [(0, lc31)]) Try.func93 (by kernel_rfl) (by kernel_rfl) lp31_ok fun objs args s hx hp => ?_
  obtain ⟨rfl, rfl⟩ := dstr_ok hx
  dsimp only
  rw [e31, if_pos ⟨rfl, rfl⟩]
  cases kept s <;> rfl
end Go.Proofs.Ytpkgikchphgfaaa.Fl

/- The references' lexer: signs, and what says nothing. -/
namespace Go.Proofs.Ytpkgikchphgfaaa.Fl
open Go Go.RowKit Go.Proofs.Ytpkgikchphgfaaa.Eng
set_option linter.unusedVariables false
set_option linter.unusedSimpArgs false
set_option maxRecDepth 20000
def an45 : Ann := ⟨fun | 0 => 99 | _ => 0, fun | 0 => 16 | _ => 0, fun _ => [], false⟩
def an43 : Ann := ⟨fun | 0 => 97 | _ => 0, fun | 0 => 48 | _ => 0, fun _ => [], false⟩
def g43_S0 (s : ByteArray) (v1 : Int) (v2 : Bool) : TS U := mkS 40
  [(0, TV.v (Value.string s)), (5, TV.v (Value.int IntKind.i64 v1)), (6, TV.v (Value.bool v2))] [] 0
theorem g43_e0 (lp : Lp
  U) (s : ByteArray) (N : Nat) (v1 : Int) (v2 : Bool) : fnLoop X (fun (x : FuncId) => none) an43 lp Try.f91 0 N.succ
  (g43_S0 s v1 v2) =
  bif decide (v1 < (↑s.size : Int)) then
  (getB s v1).bind fun (n : Int) =>
    bif decide (n = 10) then
      fnLoop X (fun (x : FuncId) => none) an43 lp Try.f91 0 N (g43_S0 s (IntKind.i64.wrap (v1 + 1)) false)
    else
      bif v2 then fnLoop X (fun (x : FuncId) => none) an43 lp Try.f91 0 N (g43_S0 s (IntKind.i64.wrap (v1 + 1)) v2)
      else
        bif decide (n = 32) then
          fnLoop X (fun (x : FuncId) => none) an43 lp Try.f91 0 N (g43_S0 s (IntKind.i64.wrap (v1 + 1)) v2)
        else
          bif decide (n = 9) then
            fnLoop X (fun (x : FuncId) => none) an43 lp Try.f91 0 N (g43_S0 s (IntKind.i64.wrap (v1 + 1)) v2)
          else
            bif decide (n = 13) then
              fnLoop X (fun (x : FuncId) => none) an43 lp Try.f91 0 N (g43_S0 s (IntKind.i64.wrap (v1 + 1)) v2)
            else
              bif decide (n = 35) then
                fnLoop X (fun (x : FuncId) => none) an43 lp Try.f91 0 N (g43_S0 s (IntKind.i64.wrap (v1 + 1)) true)
              else
                some
                  (Exit.ret, mkS 40 [(4, TV.v (Value.int IntKind.i64 v1)), (5, TV.v (Value.int IntKind.i64 v1))] [] 0)
else some (Exit.exit 0, mkS 40 [(5, TV.v (Value.int IntKind.i64 v1))] [] 0) := by kernel_rfl
/-- Where what says something stands; whether there is any. -/
def sk (s : ByteArray) : Nat → Int → Bool → Int × Bool
  | 0, v, _ => (v, false)
  | N + 1, v, note => if v < s.size then (match getB s v with
    | none => (v, false)
    | some n => if n = 10 then sk s N (v + 1) false else if note = true then sk s N (v + 1) note else if n = 32 ∨ n = 9 ∨ n = 13 then sk s N (v + 1) note else if n = 35 then sk s N (v + 1) true else (v, true)) else (v, false)
theorem getB_at {s : ByteArray} {v : Int} (h0 : 0 ≤ v) (h1 : v < s.size) : ∃ n, getB s v = some n := by
  unfold getB
  have hlt : v.toNat < s.data.size := by
    have e : s.data.size = s.size := rfl
    omega
  rw [if_pos h0, Array.getElem?_eq_getElem hlt]
  exact ⟨_, rfl⟩
theorem sk_ge (s : ByteArray) : ∀ (N : Nat) (v : Int) (b : Bool), v ≤ s.size → v ≤ (sk s N v b).1 ∧ (sk s N v b).1 ≤ s.size := by
  intro N
  induction N with
  | zero => intro v b h; exact ⟨Int.le_refl _, h⟩
  | succ N ih =>
    intro v b h
    unfold sk
    split
    · rename_i hv
      have h1 := ih (v + 1) false (by omega)
      have h2 := ih (v + 1) b (by omega)
      have h3 := ih (v + 1) true (by omega)
      split
      · exact ⟨Int.le_refl _, h⟩
      · split
        · exact ⟨by omega, h1.2⟩
        · split
          · exact ⟨by omega, h2.2⟩
          · split
            · exact ⟨by omega, h2.2⟩
            · split
              · exact ⟨by omega, h3.2⟩
              · exact ⟨Int.le_refl _, h⟩
    · exact ⟨Int.le_refl _, h⟩
def st43 (v : Int) : TS U := mkS 40 [(4, .v (.int .i64 v)), (5, .v (.int .i64 v))] [] 0
def sx43 (v : Int) : TS U := mkS 40 [(5, .v (.int .i64 v))] [] 0
theorem round43 (lp : Lp U) (s : ByteArray) (hs : s.size ≤ 1000000) : ∀ (N : Nat) (v : Int) (b : Bool), 0 ≤ v → (s.size : Int) ≤ v + N →
    fnLoop X (fun _ => none) an43 lp Try.f91 0 (N + 1) (g43_S0 s v b) = some (cond (sk s (N + 1) v b).2 (Exit.ret, st43 (sk s (N + 1) v b).1) (.exit 0, sx43 (sk s (N + 1) v b).1)) := by
  intro N
  induction N with
  | zero =>
    intro v b h0 h1
    have hv : ¬ v < (s.size : Int) := by omega
    have e : sk s 1 v b = (v, false) := by unfold sk; rw [if_neg hv]
    rw [g43_e0, e]
    simp only [hv, decide_false, cond_false]
    rfl
  | succ N ih =>
    intro v b h0 h1
    rw [g43_e0]
    by_cases hv : v < (s.size : Int)
    · obtain ⟨n, hn⟩ := getB_at h0 hv
      have hw : IntKind.i64.wrap (v + 1) = v + 1 := wrap_i64 (by omega) (by omega)
      have i1 := ih (v + 1) false (by omega) (by omega)
      have i2 := ih (v + 1) b (by omega) (by omega)
      have i3 := ih (v + 1) true (by omega) (by omega)
      have e : sk s (N + 1 + 1) v b = if n = 10 then sk s (N + 1) (v + 1) false else if b = true then sk s (N + 1) (v + 1) b else if n = 32 ∨ n = 9 ∨ n = 13 then sk s (N + 1) (v + 1) b else if n = 35 then sk s (N + 1) (v + 1) true else (v, true) := by
        rw [sk, if_pos hv, hn]
      rw [hn, hw, e]
      simp only [hv, decide_true, cond_true, Option.bind_some]
      rw [i1, i2, i3]
      by_cases c1 : n = 10
      · simp only [c1, decide_true, cond_true, if_true]
      · simp only [c1, decide_false, cond_false, if_false]
        cases b with
        | true => simp only [cond_true, if_true]
        | false =>
          by_cases c2 : n = 32 <;> by_cases c3 : n = 9 <;> by_cases c4 : n = 13 <;> by_cases c5 : n = 35 <;> first | (exfalso; omega) | (simp only [c2, c3, c4, c5, decide_true, decide_false, cond_true, cond_false, if_true, if_false, true_or, or_true, or_false, false_or, Bool.false_eq_true]; done) | (simp only [c2, c3, c4, c5, decide_true, decide_false, cond_true, cond_false, if_true, if_false, true_or, or_true, or_false, false_or, Bool.false_eq_true]; rfl)
    · have e : sk s (N + 1 + 1) v b = (v, false) := by rw [sk, if_neg hv]
      rw [e]
      simp only [hv, decide_false, cond_false]
      rfl
def PreS (s : ByteArray) (v : Int) : Prop := s.size ≤ 1000000 ∧ 0 ≤ v
instance (s : ByteArray) (v : Int) : Decidable (PreS s v) := by unfold PreS; infer_instance
def dl43 (s : TS U) : Option (ByteArray × Int × Bool) := match told s 40 [0, 5, 6] 0, s.objs with
  | some [a0, a1, a2], [] =>
    match a0 with
    | .v (.string t) =>
      match a1 with
      | .v (.int .i64 v) =>
        match a2 with
        | .v (.bool b) =>
          some (t, v, b)
        | _ => none
      | _ => none
    | _ => none
  | _, _ => none
theorem dl43_ok {s : TS U} {t : ByteArray} {v : Int} {b : Bool} (h : dl43 s = some (t, v, b)) : s = mkS (U := U) 40 ([0, 5, 6].zip ([.v (.string t), .v (.int .i64 v), .v (.bool b)] : List (TV U))) ([] : List (TO U)) 0 := by
  unfold dl43 at h
  split at h <;> try (cases h; done)
  rename_i ht ho
  have hs := told_ok ht
  rw [ho] at hs
  repeat' split at h
  all_goals first | (cases h; done) | (cases h; exact hs)
def lc43 : LC U := .of2 dl43 (fun x => PreS x.1 x.2.1) (fun x => (sk x.1 (x.1.size + 1) x.2.1 x.2.2).2) .ret (fun x => st43 (sk x.1 (x.1.size + 1) x.2.1 x.2.2).1) (.exit 0) (fun x => sx43 (sk x.1 (x.1.size + 1) x.2.1 x.2.2).1)
theorem lp43_ok : ∀ c, Try.f91.body = some c → LpOk X (fun _ => none) an43 (lpL [(0, lc43)]) (loops c 0) := lpL_ok (by kernel_rfl) fun b L hm st p hs => by
  cases hm with
  | tail _ h => cases h
  | head =>
    obtain ⟨⟨s, v, b⟩, hx, ⟨hl, hv⟩, rfl⟩ := LC.of2_some hs
    obtain rfl := dl43_ok hx
    dsimp only at hl hv ⊢
    exact ⟨s.size + 1, round43 _ s hl s.size v b hv (by omega)⟩
theorem e43 (s : ByteArray) (a : Int) : evFn X (fun _ => none) an43 (lpL [(0, lc43)]) Try.f91 [] [.v (.string s), .v (.int .i64 a)] (fun o v => some (o, v)) =
    if PreS s a then cond (sk s (s.size + 1) a false).2 (some ([], .v (.int .i64 (sk s (s.size + 1) a false).1))) (some ([], .v (.int .i64 (sk s (s.size + 1) a false).1))) else none := by kernel_rfl
def dsi (objs : List (TO U)) (args : List (TV U)) : Option (ByteArray × Int) := match objs, args with
  | [], [a0, a1] =>
    match a0 with
    | .v (.string s) =>
      match a1 with
      | .v (.int .i64 a) =>
        some (s, a)
      | _ => none
    | _ => none
  | _, _ => none
theorem dsi_ok {objs : List (TO U)} {args : List (TV U)} {s : ByteArray} {a : Int} (h : dsi objs args = some (s, a)) : objs = [] ∧ args = [.v (.string s), .v (.int .i64 a)] := by
  unfold dsi at h
  repeat' split at h
  all_goals first | (cases h; done) | (cases h; exact ⟨rfl, rfl⟩)
def sSkip : Spc U := .of dsi (fun x => PreS x.1 x.2) (fun x => []) fun x => .v (.int .i64 (sk x.1 (x.1.size + 1) x.2 false).1)
theorem sSkip_ok : SpecOk Try.prog 91 sSkip := by
  refine fn_ok X_ok mixed E0_ok an43 (lpL [(0, lc43)]) Try.func91 (by kernel_rfl) (by kernel_rfl) lp43_ok fun objs args x hx hp => ?_
  obtain ⟨s, a⟩ := x
  obtain ⟨rfl, rfl⟩ := dsi_ok hx
  dsimp only at hp ⊢
  rw [e43, if_pos hp]
  cases (sk s (s.size + 1) a false).2 <;> rfl
end Go.Proofs.Ytpkgikchphgfaaa.Fl

