/- Texts of this claim, put together: part 19. -/
import Derived.Test.YtpkgikchphgfaaaMiR
/- Programs as bytes: a whole one. -/
namespace Go.Proofs.Ytpkgikchphgfaaa.Ic
open Go Go.RowKit Go.Proofs.Ytpkgikchphgfaaa.Eng Go.Proofs.Ytpkgikchphgfaaa.Fl
set_option linter.unusedVariables false
set_option linter.unusedSimpArgs false
set_option maxRecDepth 20000
def an40 : Ann := ⟨fun | 0 => 15032385546 | 2 => 8264141345021879123976 | _ => 0, fun | 0 => 14 | 2 => 12 | _ => 0, fun _ => [], false⟩
/-- (That a number's sign is told in whatever way: else the kernel looks into it.) -/
def sSignG (zg : Int → Int) : Spc U := .of dIn (fun _ => True) (fun _ => []) fun n => .v (.int .u64 (zg n))
def IbG (zg : Int → Int) : FuncId → Option (Spc U)
  | 87 => some sRow2
  | 88 => some sNum
  | 89 => some sText
  | 90 => some (sSignG zg)
  | _ => none
def Ib : FuncId → Option (Spc U) := IbG zig
theorem Ib_ok : ∀ f S, Ib f = some S → SpecOk Try.prog f S := fun f S h => by
  unfold Ib IbG at h
  split at h
  · cases h; exact sRow2_ok
  · cases h; exact sNum_ok
  · cases h; exact sText_ok
  · cases h; exact sSign_ok
  · cases h
def headB (o : IRs) : ByteArray := rowB o.G ++ rowB o.F ++ rowB o.V ++ numB (IntKind.u64.wrap o.Main) ++ numB (IntKind.u64.wrap (o.Fs.length : Int))
def fnB (z : R69) : ByteArray := textB z.Name ++ rowB z.Params ++ numB (IntKind.u64.wrap z.Ret) ++ numB (IntKind.u64.wrap z.First) ++ numB (IntKind.u64.wrap z.Last)
def fnS (b : ByteArray) (z : R69) : ByteArray := b ++ fnB z
def fnsB (o : IRs) : ByteArray := o.Fs.foldl fnS (headB o)
def FnOk (z : R69) : Prop := z.Name.size ≤ 100000000 ∧ Sm z.Params.length
instance (z : R69) : Decidable (FnOk z) := by unfold FnOk; infer_instance
def PutOk (o : IRs) : Prop := (Sm o.G.length ∧ Sm o.F.length ∧ Sm o.V.length) ∧ (Sm o.Fs.length ∧ Sm o.C.length) ∧ (∀ z ∈ o.Fs, FnOk z) ∧ ∀ z ∈ o.C, Sm z.Args.length
instance (o : IRs) : Decidable (PutOk o) := by unfold PutOk; infer_instance
theorem headB_size {o : IRs} (h : PutOk o) : (headB o).size ≤ 200000000 := by
  have h1 := rowB_size h.1.1
  have h2 := rowB_size h.1.2.1
  have h3 := rowB_size h.1.2.2
  have h4 := numB_size (u64_wrap o.Main)
  have h5 := numB_size (u64_wrap (o.Fs.length : Int))
  unfold headB
  simp only [app_size]
  omega
theorem fnB_size {z : R69} (h : FnOk z) : (fnB z).size ≤ 200000000 := by
  have h1 := textB_size h.1
  have h2 := rowB_size h.2
  have h3 := numB_size (u64_wrap z.Ret)
  have h4 := numB_size (u64_wrap z.First)
  have h5 := numB_size (u64_wrap z.Last)
  unfold fnB
  simp only [app_size]
  omega
def g40_S0 (o : IRs) (v0 : ByteArray) (v3 : Int) : TS U := mkS 105
  [(1, TV.ref 0 0 0), (3, TV.v (Value.string v0)), (31, TV.lst C.t69 o.Fs),
    (32, TV.v (Value.int IntKind.i64 (↑o.Fs.length : Int))), (33, TV.v (Value.int IntKind.i64 v3))]
  [TO.cells
      [TV.lst C.i64 o.G, TV.lst C.i64 o.F, TV.lst C.i64 o.V, TV.lst C.t69 o.Fs, TV.lst C.t65 o.C,
        TV.v (Value.int IntKind.i64 o.Main)]
      false]
  0
theorem g40_e0 (lp : Lp
  U) (o : IRs) (N : Nat) (v0 : ByteArray) (v3 : Int) : fnLoop X Ib an40 lp Try.f40 0 N.succ (g40_S0 o v0 v3) =
  bif decide (v3 < (↑o.Fs.length : Int)) then
  (getI o.Fs v3).bind fun (z : X.U.T C.t69) =>
    if z.Name.size ≤ 100000000 then
      if Sm z.Params.length then
        if (textB z.Name).size + (rowB z.Params).size ≤ 9223372036854775807 then
          if U64 (IntKind.u64.wrap z.Ret) then
            if (textB z.Name ++ rowB z.Params).size + (numB (IntKind.u64.wrap z.Ret)).size ≤ 9223372036854775807 then
              if U64 (IntKind.u64.wrap z.First) then
                if
                    (textB z.Name ++ rowB z.Params ++ numB (IntKind.u64.wrap z.Ret)).size +
                        (numB (IntKind.u64.wrap z.First)).size ≤
                      9223372036854775807 then
                  if U64 (IntKind.u64.wrap z.Last) then
                    if
                        (textB z.Name ++ rowB z.Params ++ numB (IntKind.u64.wrap z.Ret) ++
                                numB (IntKind.u64.wrap z.First)).size +
                            (numB (IntKind.u64.wrap z.Last)).size ≤
                          9223372036854775807 then
                      if
                          v0.size +
                              (textB z.Name ++ rowB z.Params ++ numB (IntKind.u64.wrap z.Ret) ++
                                    numB (IntKind.u64.wrap z.First) ++
                                  numB (IntKind.u64.wrap z.Last)).size ≤
                            9223372036854775807 then
                        fnLoop X Ib an40 lp Try.f40 0 N
                          (g40_S0 o
                            (v0 ++
                              (textB z.Name ++ rowB z.Params ++ numB (IntKind.u64.wrap z.Ret) ++
                                  numB (IntKind.u64.wrap z.First) ++
                                numB (IntKind.u64.wrap z.Last)))
                            (IntKind.i64.wrap (v3 + 1)))
                      else none
                    else none
                  else none
                else none
              else none
            else none
          else none
        else none
      else none
    else none
else
  some
    (Exit.exit 0,
      mkS 105 [(1, TV.ref 0 0 0), (3, TV.v (Value.string v0))]
        [TO.cells
            [TV.lst C.i64 o.G, TV.lst C.i64 o.F, TV.lst C.i64 o.V, TV.lst C.t69 o.Fs, TV.lst C.t65 o.C,
              TV.v (Value.int IntKind.i64 o.Main)]
            false]
        0) := by kernel_rfl
theorem getI_mem {α : Type} {l : List α} {v : Int} {x : α} (h : getI l v = some x) : x ∈ l := List.mem_of_getElem? (getI_some h).2
def Z40a (o : IRs) (b : ByteArray) : TS U := mkS 105 [(1, .ref 0 0 0), (3, .v (.string b))] [.cells [.lst .i64 o.G, .lst .i64 o.F, .lst .i64 o.V, .lst .t69 o.Fs, .lst .t65 o.C, .v (.int .i64 o.Main)] false] 0
theorem rounds40a (lp : Lp U) {o : IRs} (h : PutOk o) : fnLoop X Ib an40 lp Try.f40 0 (o.Fs.length + 1) (g40_S0 o (headB o) 0) = some (.exit 0, Z40a o (fnsB o)) := by
  have hl := h.2.1.1
  unfold Sm at hl
  have hh := headB_size h
  refine fold_rounds (fnl := fnLoop X Ib an40 lp Try.f40 0) (fun b v => g40_S0 o b v) (fun b => ((.exit 0, Z40a o b) : Exit × TS U)) o.Fs (fun b v => (b.size : Int) ≤ 200000000 + 200000000 * v) fnS (fun N b v z hI h0 h1 hz => ?_) (fun N b v hI h1 => ?_) o.Fs.length _ 0 (by omega) (Int.le_refl _) (by omega)
  · have hk := h.2.2.1 z (getI_mem hz)
    have hs := fnB_size hk
    have s1 := textB_size hk.1
    have s2 := rowB_size hk.2
    have s3 := numB_size (u64_wrap z.Ret)
    have s4 := numB_size (u64_wrap z.First)
    have s5 := numB_size (u64_wrap z.Last)
    refine ⟨?_, ?_⟩
    · rw [g40_e0, decide_eq_true h1, hz, wrap_i64 (c := v + 1) (by omega) (by omega)]
      simp only [cond_true, Option.bind_some]
      rw [if_pos hk.1, if_pos hk.2, if_pos (by omega), if_pos (u64_wrap _), if_pos (by simp only [app_size]; omega), if_pos (u64_wrap _), if_pos (by simp only [app_size]; omega), if_pos (u64_wrap _), if_pos (by simp only [app_size]; omega)]
      exact if_pos (show b.size + (fnB z).size ≤ _ by omega)
    · unfold fnS
      rw [app_size]
      omega
  · rw [g40_e0, decide_eq_false h1]
    rfl
def Pre40 (o : IRs) (b : ByteArray) (n v : Int) : Prop := PutOk o ∧ n = o.Fs.length ∧ v = 0 ∧ b = headB o
instance (o : IRs) (b : ByteArray) (n v : Int) : Decidable (Pre40 o b n v) := by unfold Pre40; infer_instance
def dl40a (s : TS U) : Option (IRs × ByteArray × List R69 × Int × Int) := match told s 105 [1, 3, 31, 32, 33] 0, s.objs with
  | some [a0, a1, a2, a3, a4], [o0] =>
    match o0 with
    | .cells [q0, q1, q2, q3, q4, q5] false =>
      match q0 with
      | .lst .i64 o_G =>
        match q1 with
        | .lst .i64 o_F =>
          match q2 with
          | .lst .i64 o_V =>
            match q3 with
            | .lst .t69 o_Fs =>
              match q4 with
              | .lst .t65 o_C =>
                match q5 with
                | .v (.int .i64 o_Main) =>
                  match a0 with
                  | .ref 0 0 0 =>
                    match a1 with
                    | .v (.string b) =>
                      match a2 with
                      | .lst .t69 l =>
                        match a3 with
                        | .v (.int .i64 n) =>
                          match a4 with
                          | .v (.int .i64 v) =>
                            some ((⟨o_G, o_F, o_V, o_Fs, o_C, o_Main⟩ : IRs), b, l, n, v)
                          | _ => none
                        | _ => none
                      | _ => none
                    | _ => none
                  | _ => none
                | _ => none
              | _ => none
            | _ => none
          | _ => none
        | _ => none
      | _ => none
    | _ => none
  | _, _ => none
theorem dl40a_ok {s : TS U} {o : IRs} {b : ByteArray} {l : List R69} {n : Int} {v : Int} (h : dl40a s = some (o, b, l, n, v)) : s = mkS (U := U) 105 ([1, 3, 31, 32, 33].zip ([.ref 0 0 0, .v (.string b), .lst .t69 l, .v (.int .i64 n), .v (.int .i64 v)] : List (TV U))) ([o.ob] : List (TO U)) 0 := by
  unfold dl40a at h
  split at h <;> try (cases h; done)
  rename_i ht ho
  have hs := told_ok ht
  rw [ho] at hs
  repeat' split at h
  all_goals first | (cases h; done) | (cases h; exact hs)
def Pre40l (o : IRs) (b : ByteArray) (l : List R69) (n v : Int) : Prop := Pre40 o b n v ∧ l = o.Fs
deriving instance DecidableEq for R69, R65
instance (o : IRs) (b : ByteArray) (l : List R69) (n v : Int) : Decidable (Pre40l o b l n v) := by unfold Pre40l; infer_instance
def lc40a : LC U := .of dl40a (fun (o, b, l, n, v) => Pre40l o b l n v) (.exit 0) (fun (o, b, l, n, v) => Z40a o (fnsB o))
def insBG (zg : Int → Int) (z : R65) : ByteArray := rowB [z.Fn, z.At, z.Op, z.A, z.B, z.C, z.Do] ++ numB (zg z.N) ++ rowB z.Args
def insSG (zg : Int → Int) (b : ByteArray) (z : R65) : ByteArray := b ++ insBG zg z
def codeBG (zg : Int → Int) (b : ByteArray) (l : List R65) : ByteArray := l.foldl (insSG zg) b
def codeB : ByteArray → List R65 → ByteArray := codeBG zig
theorem zig_u (n : Int) : U64 (zig n) := u64_wrap _
theorem insB_size {zg : Int → Int} (zu : ∀ n, U64 (zg n)) {z : R65} (h : Sm z.Args.length) : (insBG zg z).size ≤ 200000000 := by
  have h1 := rowB_size (l := [z.Fn, z.At, z.Op, z.A, z.B, z.C, z.Do]) (by unfold Sm; show 7 ≤ _; decide)
  have h2 := rowB_size h
  have h3 := numB_size (zu z.N)
  unfold insBG
  simp only [app_size]
  omega
def S40b (l : List R65) (b : ByteArray) (v : Int) : TS U := mkS 105 [(3, .v (.string b)), (70, .lst .t65 l), (71, .v (.int .i64 (l.length : Int))), (72, .v (.int .i64 v))] [] 0
def Z40b (b : ByteArray) : TS U := mkS 105 [(3, .v (.string b))] [] 0
theorem r40b (zg : Int → Int) (lp : Lp U) (l : List R65) (N : Nat) (v0 : ByteArray) (v3 : Int) : fnLoop X (IbG zg) an40 lp Try.f40 2 N.succ (S40b l v0 v3) =
  bif decide (v3 < (l.length : Int)) then
  (getI l v3).bind fun (z : X.U.T C.t65) =>
    if Sm 7 then
      if True then
        if U64 (zg z.N) then
          if (rowB [z.Fn, z.At, z.Op, z.A, z.B, z.C, z.Do]).size + (numB (zg z.N)).size ≤ 9223372036854775807 then
            if Sm z.Args.length then
              if (rowB [z.Fn, z.At, z.Op, z.A, z.B, z.C, z.Do] ++ numB (zg z.N)).size + (rowB z.Args).size ≤ 9223372036854775807 then
                if v0.size + (rowB [z.Fn, z.At, z.Op, z.A, z.B, z.C, z.Do] ++ numB (zg z.N) ++ rowB z.Args).size ≤ 9223372036854775807 then
                  fnLoop X (IbG zg) an40 lp Try.f40 2 N (S40b l (v0 ++ (rowB [z.Fn, z.At, z.Op, z.A, z.B, z.C, z.Do] ++ numB (zg z.N) ++ rowB z.Args)) (IntKind.i64.wrap (v3 + 1)))
                else none
              else none
            else none
          else none
        else none
      else none
    else none
  else some (Exit.exit 2, Z40b v0) := by kernel_rfl
def Pre40b (l : List R65) (b : ByteArray) (n v : Int) : Prop := (Sm l.length ∧ ∀ z ∈ l, Sm z.Args.length) ∧ b.size ≤ 1000000000000000000 ∧ n = l.length ∧ v = 0
instance (l : List R65) (b : ByteArray) (n v : Int) : Decidable (Pre40b l b n v) := by unfold Pre40b; infer_instance
theorem rounds40b {zg : Int → Int} (zu : ∀ n, U64 (zg n)) (lp : Lp U) {l : List R65} {b0 : ByteArray} {n v : Int} (h : Pre40b l b0 n v) : fnLoop X (IbG zg) an40 lp Try.f40 2 (l.length + 1) (S40b l b0 0) = some (.exit 2, Z40b (codeBG zg b0 l)) := by
  have hl := h.1.1
  have hb := h.2.1
  unfold Sm at hl
  refine fold_rounds (fnl := fnLoop X (IbG zg) an40 lp Try.f40 2) (fun b v => S40b l b v) (fun b => ((.exit 2, Z40b b) : Exit × TS U)) l (fun b v => (b.size : Int) ≤ 1000000000000000000 + 200000000 * v) (insSG zg) (fun N b v z hI h0 h1 hz => ?_) (fun N b v hI h1 => ?_) l.length _ 0 (by omega) (Int.le_refl _) (by omega)
  · have hk := h.1.2 z (getI_mem hz)
    have hs := insB_size zu hk
    have s1 := rowB_size (l := [z.Fn, z.At, z.Op, z.A, z.B, z.C, z.Do]) (by unfold Sm; show 7 ≤ _; decide)
    have s2 := rowB_size hk
    have s3 := numB_size (zu z.N)
    refine ⟨?_, ?_⟩
    · rw [r40b, decide_eq_true h1, hz, wrap_i64 (c := v + 1) (by omega) (by omega)]
      simp only [cond_true, Option.bind_some]
      rw [if_pos (show Sm 7 from by unfold Sm; decide), if_pos trivial, if_pos (zu _), if_pos (by omega), if_pos hk, if_pos (by simp only [app_size]; omega)]
      exact if_pos (show b.size + (insBG zg z).size ≤ _ by omega)
    · unfold insSG
      rw [app_size]
      omega
  · rw [r40b, decide_eq_false h1]
    rfl
def dl40b (s : TS U) : Option (ByteArray × List R65 × Int × Int) := match told s 105 [3, 70, 71, 72] 0, s.objs with
  | some [a0, a1, a2, a3], [] =>
    match a0 with
    | .v (.string b) =>
      match a1 with
      | .lst .t65 l =>
        match a2 with
        | .v (.int .i64 n) =>
          match a3 with
          | .v (.int .i64 v) =>
            some (b, l, n, v)
          | _ => none
        | _ => none
      | _ => none
    | _ => none
  | _, _ => none
theorem dl40b_ok {s : TS U} {b : ByteArray} {l : List R65} {n : Int} {v : Int} (h : dl40b s = some (b, l, n, v)) : s = mkS (U := U) 105 ([3, 70, 71, 72].zip ([.v (.string b), .lst .t65 l, .v (.int .i64 n), .v (.int .i64 v)] : List (TV U))) ([] : List (TO U)) 0 := by
  unfold dl40b at h
  split at h <;> try (cases h; done)
  rename_i ht ho
  have hs := told_ok ht
  rw [ho] at hs
  repeat' split at h
  all_goals first | (cases h; done) | (cases h; exact hs)
def lc40b : LC U := .of dl40b (fun (b, l, n, v) => Pre40b l b n v) (.exit 2) (fun (b, l, n, v) => Z40b (codeB b l))
def lp40 : Lp U := lpL [(0, lc40a), (2, lc40b)]
theorem lp40_ok : ∀ c, Try.f40.body = some c → LpOk X Ib an40 lp40 (loops c 0) := lpL_ok (by kernel_rfl) fun b L hm st p hs => by
  cases hm with
  | head =>
    obtain ⟨⟨o, b, l, n, v⟩, hx, ⟨⟨h1, rfl, rfl, rfl⟩, rfl⟩, rfl⟩ := LC.of_some hs
    obtain rfl := dl40a_ok hx
    exact ⟨_, rounds40a _ h1⟩
  | tail _ hm => cases hm with
    | head =>
      obtain ⟨⟨b, l, n, v⟩, hx, h, rfl⟩ := LC.of_some hs
      obtain rfl := dl40b_ok hx
      obtain ⟨h1, h2, rfl, rfl⟩ := h
      exact ⟨_, rounds40b zig_u (lpL [(0, lc40a), (2, lc40b)]) (n := l.length) (v := 0) ⟨h1, h2, rfl, rfl⟩⟩
    | tail _ h => cases h
def putB (o : IRs) : ByteArray := codeB (fnsB o ++ numB (IntKind.u64.wrap (o.C.length : Int))) o.C
theorem e40 (o : IRs) : (evFn X Ib an40 lp40 Try.f40 [] [irV o] fun (o : List (TO X.U)) (v : TV X.U) => some (o, v)) =
  if Sm o.G.length then
  if Sm o.F.length then
    if (rowB o.G).size + (rowB o.F).size ≤ 9223372036854775807 then
      if Sm o.V.length then
        if (rowB o.G ++ rowB o.F).size + (rowB o.V).size ≤ 9223372036854775807 then
          if U64 (IntKind.u64.wrap o.Main) then
            if
                (rowB o.G ++ rowB o.F ++ rowB o.V).size + (numB (IntKind.u64.wrap o.Main)).size ≤
                  9223372036854775807 then
              if U64 (IntKind.u64.wrap (↑o.Fs.length : Int)) then
                if
                    (rowB o.G ++ rowB o.F ++ rowB o.V ++ numB (IntKind.u64.wrap o.Main)).size +
                        (numB (IntKind.u64.wrap (↑o.Fs.length : Int))).size ≤
                      9223372036854775807 then
                  if
                      Pre40l o
                        (rowB o.G ++ rowB o.F ++ rowB o.V ++ numB (IntKind.u64.wrap o.Main) ++
                          numB (IntKind.u64.wrap (↑o.Fs.length : Int)))
                        o.Fs (↑o.Fs.length : Int) 0 then
                    if U64 (IntKind.u64.wrap (↑o.C.length : Int)) then
                      if (fnsB o).size + (numB (IntKind.u64.wrap (↑o.C.length : Int))).size ≤ 9223372036854775807 then
                        if Pre40b o.C (fnsB o ++ numB (IntKind.u64.wrap (↑o.C.length : Int))) (↑o.C.length : Int) 0 then
                          some
                            ([],
                              TV.v (Value.string (codeB (fnsB o ++ numB (IntKind.u64.wrap (↑o.C.length : Int))) o.C)))
                        else none
                      else none
                    else none
                  else none
                else none
              else none
            else none
          else none
        else none
      else none
    else none
  else none
else none := by kernel_rfl
def dIr (objs : List (TO U)) (args : List (TV U)) : Option (IRs) := match objs, args with
  | [], [a0] =>
    match a0 with
    | .agg [q0, q1, q2, q3, q4, q5] =>
      match q0 with
      | .lst .i64 o_G =>
        match q1 with
        | .lst .i64 o_F =>
          match q2 with
          | .lst .i64 o_V =>
            match q3 with
            | .lst .t69 o_Fs =>
              match q4 with
              | .lst .t65 o_C =>
                match q5 with
                | .v (.int .i64 o_Main) =>
                  some (⟨o_G, o_F, o_V, o_Fs, o_C, o_Main⟩ : IRs)
                | _ => none
              | _ => none
            | _ => none
          | _ => none
        | _ => none
      | _ => none
    | _ => none
  | _, _ => none
theorem dIr_ok {objs : List (TO U)} {args : List (TV U)} {o : IRs} (h : dIr objs args = some o) : objs = [] ∧ args = [o.tv] := by
  unfold dIr at h
  repeat' split at h
  all_goals first | (cases h; done) | (cases h; exact ⟨rfl, rfl⟩)
theorem fnsB_size {o : IRs} (h : PutOk o) : (fnsB o).size ≤ 900000000000000 := by
  have key : ∀ (l : List R69) (b : ByteArray), (∀ z ∈ l, FnOk z) → (l.foldl fnS b).size ≤ b.size + 200000000 * l.length := by
    intro l
    induction l with
    | nil => intro b _; exact Nat.le_refl _
    | cons x l ih =>
      intro b hb
      have h1 := ih (fnS b x) fun z hz => hb z (.tail _ hz)
      have h2 := fnB_size (hb x (.head _))
      have h3 : (fnS b x).size = b.size + (fnB x).size := app_size _ _
      rw [List.foldl_cons, List.length_cons]
      omega
  have h1 := key o.Fs (headB o) h.2.2.1
  have h2 := headB_size h
  have h3 := h.2.1.1
  unfold Sm at h3
  unfold fnsB
  omega
def sPut : Spc U := .of dIr PutOk (fun _ => []) fun o => .v (.string (putB o))
theorem sPut_ok : SpecOk Try.prog 40 sPut := by
  refine fn_ok X_ok mixed Ib_ok an40 lp40 Try.func40 (by kernel_rfl) (by kernel_rfl) lp40_ok fun objs args o hx hp => ?_
  obtain ⟨rfl, rfl⟩ := dIr_ok hx
  dsimp only
  refine (e40 o).trans ?_
  have h1 := rowB_size hp.1.1
  have h2 := rowB_size hp.1.2.1
  have h3 := rowB_size hp.1.2.2
  have h4 := numB_size (u64_wrap o.Main)
  have h5 := numB_size (u64_wrap (o.Fs.length : Int))
  have h6 := numB_size (u64_wrap (o.C.length : Int))
  have h7 := fnsB_size hp
  rw [if_pos hp.1.1, if_pos hp.1.2.1, if_pos (by omega), if_pos hp.1.2.2, if_pos (by simp only [app_size]; omega), if_pos (u64_wrap _), if_pos (by simp only [app_size]; omega), if_pos (u64_wrap _), if_pos (by simp only [app_size]; omega),
    if_pos (show Pre40l o (rowB o.G ++ rowB o.F ++ rowB o.V ++ numB (IntKind.u64.wrap o.Main) ++ numB (IntKind.u64.wrap (o.Fs.length : Int))) o.Fs o.Fs.length 0 from ⟨⟨hp, rfl, rfl, rfl⟩, rfl⟩), if_pos (u64_wrap _), if_pos (by omega)]
  exact if_pos ⟨⟨hp.2.1.2, hp.2.2.2⟩, by simp only [app_size]; omega, rfl, rfl⟩
end Go.Proofs.Ytpkgikchphgfaaa.Ic

/- Programs as bytes: the same? -/
namespace Go.Proofs.Ytpkgikchphgfaaa.Ic
open Go Go.RowKit Go.Proofs.Ytpkgikchphgfaaa.Eng Go.Proofs.Ytpkgikchphgfaaa.Fl
set_option linter.unusedVariables false
set_option linter.unusedSimpArgs false
set_option maxRecDepth 20000
def an20 : Ann := ⟨fun | 0 => 44 | 2 => 268 | _ => 0, fun | 0 => 28 | 2 => 16 | _ => 0, fun _ => [], false⟩
def Ic : FuncId → Option (Spc U)
  | 13 => some sInts
  | 40 => some sPut
  | _ => none
theorem Ic_ok : ∀ f S, Ic f = some S → SpecOk Try.prog f S := fun f S h => by
  unfold Ic at h
  split at h
  · cases h; exact sInts_ok
  · cases h; exact sPut_ok
  · cases h
theorem e19 (a : IRs) (b : IRs) : (evFn X Ic an0 lp0 Try.f19 [] [irV a, irV b] fun (o : List (TO X.U)) (v : TV X.U) =>
  some (o, v)) =
  if PutOk a then if PutOk b then some ([], TV.v (Value.bool ((putB a).toList == (putB b).toList))) else none
else none := by kernel_rfl
def dII (objs : List (TO U)) (args : List (TV U)) : Option (IRs × IRs) := match objs, args with
  | [], [a0, a1] =>
    match a0 with
    | .agg [q0, q1, q2, q3, q4, q5] =>
      match q0 with
      | .lst .i64 a_G =>
        match q1 with
        | .lst .i64 a_F =>
          match q2 with
          | .lst .i64 a_V =>
            match q3 with
            | .lst .t69 a_Fs =>
              match q4 with
              | .lst .t65 a_C =>
                match q5 with
                | .v (.int .i64 a_Main) =>
                  match a1 with
                  | .agg [q6, q7, q8, q9, q10, q11] =>
                    match q6 with
                    | .lst .i64 b_G =>
                      match q7 with
                      | .lst .i64 b_F =>
                        match q8 with
                        | .lst .i64 b_V =>
                          match q9 with
                          | .lst .t69 b_Fs =>
                            match q10 with
                            | .lst .t65 b_C =>
                              match q11 with
                              | .v (.int .i64 b_Main) =>
                                some ((⟨a_G, a_F, a_V, a_Fs, a_C, a_Main⟩ : IRs), (⟨b_G, b_F, b_V, b_Fs, b_C, b_Main⟩ : IRs))
                              | _ => none
                            | _ => none
                          | _ => none
                        | _ => none
                      | _ => none
                    | _ => none
                  | _ => none
                | _ => none
              | _ => none
            | _ => none
          | _ => none
        | _ => none
      | _ => none
    | _ => none
  | _, _ => none
theorem dII_ok {objs : List (TO U)} {args : List (TV U)} {a : IRs} {b : IRs} (h : dII objs args = some (a, b)) : objs = [] ∧ args = [a.tv, b.tv] := by
  unfold dII at h
  repeat' split at h
  all_goals first | (cases h; done) | (cases h; exact ⟨rfl, rfl⟩)
def putE (a b : IRs) : Bool := (putB a).toList == (putB b).toList
def sSameP : Spc U := .of dII (fun (a, b) => PutOk a ∧ PutOk b) (fun _ => []) fun (a, b) => .v (.bool (putE a b))
theorem sSameP_ok : SpecOk Try.prog 19 sSameP := by
  refine fn_ok X_ok mixed Ic_ok an0 lp0 Try.func19 (by kernel_rfl) (by kernel_rfl) (lp0_ok (by kernel_rfl)) fun objs args x hx hp => ?_
  obtain ⟨a, b⟩ := x
  obtain ⟨rfl, rfl⟩ := dII_ok hx
  dsimp only at hp ⊢
  refine (e19 a b).trans ?_
  rw [if_pos hp.1, if_pos hp.2]
  rfl
theorem eq_roundsG {α T B : Type} [DecidableEq α] {fnl : Nat → T → Option B} {S : Int → T} {rt ex : B} {a b : List α} (ha : a.length ≤ 4000000) (hab : a.length = b.length)
    (hin : ∀ (N : Nat) (v : Int) (x y : α), 0 ≤ v → v < (a.length : Int) → getI a v = some x → getI b v = some y → fnl (N + 1) (S v) = cond (decide (x = y)) (fnl N (S (IntKind.i64.wrap (v + 1)))) (some rt))
    (hout : ∀ (N : Nat) (v : Int), ¬ v < (a.length : Int) → fnl (N + 1) (S v) = some ex) : ∀ (N : Nat) (v : Int), 0 ≤ v → (a.length : Int) ≤ v + N → fnl (N + 1) (S v) = some (cond (decide (a.drop v.toNat = b.drop v.toNat)) ex rt) := by
  intro N
  induction N with
  | zero =>
    intro v h0 h1
    rw [hout 0 v (by omega), List.drop_eq_nil_of_le (by omega), List.drop_eq_nil_of_le (by omega)]
    simp
  | succ N ih =>
    intro v h0 h1
    by_cases hv : v < (a.length : Int)
    · obtain ⟨x, hx, hx2⟩ := getI_lt (l := a) h0 hv
      obtain ⟨y, hy, hy2⟩ := getI_lt (l := b) h0 (by omega)
      have hw : IntKind.i64.wrap (v + 1) = v + 1 := wrap_i64 (by omega) (by omega)
      have ea : a.drop v.toNat = x :: a.drop (v.toNat + 1) := by
        rw [List.drop_eq_getElem_cons (by omega)]
        rw [List.getElem?_eq_getElem (by omega)] at hx2
        rw [Option.some.inj hx2]
      have eb : b.drop v.toNat = y :: b.drop (v.toNat + 1) := by
        rw [List.drop_eq_getElem_cons (by omega)]
        rw [List.getElem?_eq_getElem (by omega)] at hy2
        rw [Option.some.inj hy2]
      rw [hin (N + 1) v x y h0 hv hx hy, hw, ih (v + 1) (by omega) (by omega), ea, eb, show (v + 1).toNat = v.toNat + 1 by omega]
      by_cases hxy : x = y
      · subst hxy
        simp
      · simp [hxy]
    · rw [hout (N + 1) v hv, List.drop_eq_nil_of_le (by omega), List.drop_eq_nil_of_le (by omega)]
      simp
def g20_S0 (a : IRs) (b : IRs) (v0 : Int) : TS U := mkS 188
  [(2, TV.ref 0 0 0), (3, TV.ref 1 0 0), (5, TV.v (Value.int IntKind.i64 v0))]
  [TO.cells
      [TV.lst C.i64 a.G, TV.lst C.i64 a.F, TV.lst C.i64 a.V, TV.lst C.t69 a.Fs, TV.lst C.t65 a.C,
        TV.v (Value.int IntKind.i64 a.Main)]
      false,
    TO.cells
      [TV.lst C.i64 b.G, TV.lst C.i64 b.F, TV.lst C.i64 b.V, TV.lst C.t69 b.Fs, TV.lst C.t65 b.C,
        TV.v (Value.int IntKind.i64 b.Main)]
      false]
  0
theorem g20_e0 (lp : Lp
  U) (a : IRs) (b : IRs) (N : Nat) (v0 : Int) : fnLoop X Ic an20 lp Try.f20 0 N.succ (g20_S0 a b v0) =
  bif decide (v0 < (↑a.Fs.length : Int)) then
  (getI a.Fs v0).bind fun (z : X.U.T C.t69) =>
    (getI b.Fs v0).bind fun (z_1 : X.U.T C.t69) =>
      bif !z.Name.toList == z_1.Name.toList then
        some
          (Exit.ret,
            mkS 188 [(2, TV.ref 0 0 0), (3, TV.ref 1 0 0), (4, TV.v (Value.bool false))]
              [TO.cells
                  [TV.lst C.i64 a.G, TV.lst C.i64 a.F, TV.lst C.i64 a.V, TV.lst C.t69 a.Fs, TV.lst C.t65 a.C,
                    TV.v (Value.int IntKind.i64 a.Main)]
                  false,
                TO.cells
                  [TV.lst C.i64 b.G, TV.lst C.i64 b.F, TV.lst C.i64 b.V, TV.lst C.t69 b.Fs, TV.lst C.t65 b.C,
                    TV.v (Value.int IntKind.i64 b.Main)]
                  false]
              0)
      else
        if Sn z.Params.length then
          bif !eqI z.Params z_1.Params then
            some
              (Exit.ret,
                mkS 188 [(2, TV.ref 0 0 0), (3, TV.ref 1 0 0), (4, TV.v (Value.bool false))]
                  [TO.cells
                      [TV.lst C.i64 a.G, TV.lst C.i64 a.F, TV.lst C.i64 a.V, TV.lst C.t69 a.Fs, TV.lst C.t65 a.C,
                        TV.v (Value.int IntKind.i64 a.Main)]
                      false,
                    TO.cells
                      [TV.lst C.i64 b.G, TV.lst C.i64 b.F, TV.lst C.i64 b.V, TV.lst C.t69 b.Fs, TV.lst C.t65 b.C,
                        TV.v (Value.int IntKind.i64 b.Main)]
                      false]
                  0)
          else
            bif !decide (z.Ret = z_1.Ret) then
              some
                (Exit.ret,
                  mkS 188 [(2, TV.ref 0 0 0), (3, TV.ref 1 0 0), (4, TV.v (Value.bool false))]
                    [TO.cells
                        [TV.lst C.i64 a.G, TV.lst C.i64 a.F, TV.lst C.i64 a.V, TV.lst C.t69 a.Fs, TV.lst C.t65 a.C,
                          TV.v (Value.int IntKind.i64 a.Main)]
                        false,
                      TO.cells
                        [TV.lst C.i64 b.G, TV.lst C.i64 b.F, TV.lst C.i64 b.V, TV.lst C.t69 b.Fs, TV.lst C.t65 b.C,
                          TV.v (Value.int IntKind.i64 b.Main)]
                        false]
                    0)
            else
              bif !decide (z.First = z_1.First) then
                some
                  (Exit.ret,
                    mkS 188 [(2, TV.ref 0 0 0), (3, TV.ref 1 0 0), (4, TV.v (Value.bool false))]
                      [TO.cells
                          [TV.lst C.i64 a.G, TV.lst C.i64 a.F, TV.lst C.i64 a.V, TV.lst C.t69 a.Fs, TV.lst C.t65 a.C,
                            TV.v (Value.int IntKind.i64 a.Main)]
                          false,
                        TO.cells
                          [TV.lst C.i64 b.G, TV.lst C.i64 b.F, TV.lst C.i64 b.V, TV.lst C.t69 b.Fs, TV.lst C.t65 b.C,
                            TV.v (Value.int IntKind.i64 b.Main)]
                          false]
                      0)
              else
                bif !decide (z.Last = z_1.Last) then
                  some
                    (Exit.ret,
                      mkS 188 [(2, TV.ref 0 0 0), (3, TV.ref 1 0 0), (4, TV.v (Value.bool false))]
                        [TO.cells
                            [TV.lst C.i64 a.G, TV.lst C.i64 a.F, TV.lst C.i64 a.V, TV.lst C.t69 a.Fs, TV.lst C.t65 a.C,
                              TV.v (Value.int IntKind.i64 a.Main)]
                            false,
                          TO.cells
                            [TV.lst C.i64 b.G, TV.lst C.i64 b.F, TV.lst C.i64 b.V, TV.lst C.t69 b.Fs, TV.lst C.t65 b.C,
                              TV.v (Value.int IntKind.i64 b.Main)]
                            false]
                        0)
                else fnLoop X Ic an20 lp Try.f20 0 N (g20_S0 a b (IntKind.i64.wrap (v0 + 1)))
        else none
else
  some
    (Exit.exit 0,
      mkS 188 [(2, TV.ref 0 0 0), (3, TV.ref 1 0 0)]
        [TO.cells
            [TV.lst C.i64 a.G, TV.lst C.i64 a.F, TV.lst C.i64 a.V, TV.lst C.t69 a.Fs, TV.lst C.t65 a.C,
              TV.v (Value.int IntKind.i64 a.Main)]
            false,
          TO.cells
            [TV.lst C.i64 b.G, TV.lst C.i64 b.F, TV.lst C.i64 b.V, TV.lst C.t69 b.Fs, TV.lst C.t65 b.C,
              TV.v (Value.int IntKind.i64 b.Main)]
            false]
        0) := by kernel_rfl
def irObj (o : IRs) : TO U := .cells [.lst .i64 o.G, .lst .i64 o.F, .lst .i64 o.V, .lst .t69 o.Fs, .lst .t65 o.C, .v (.int .i64 o.Main)] false
def Z20 (a b : IRs) : TS U := mkS 188 [(2, .ref 0 0 0), (3, .ref 1 0 0)] [irObj a, irObj b] 0
def Y20 (a b : IRs) : TS U := mkS 188 [(2, .ref 0 0 0), (3, .ref 1 0 0), (4, .v (.bool false))] [irObj a, irObj b] 0
def eqF (l m : List R69) : Bool := decide (l = m)
def eqC (l m : List R65) : Bool := decide (l = m)
theorem beq_ba {a b : ByteArray} : (a.toList == b.toList) = decide (a = b) := by
  by_cases h : a = b
  · subst h; simp
  · rw [decide_eq_false h]
    refine Bool.eq_false_iff.2 fun hc => h ?_
    have := eq_of_beq hc
    exact tl8_inj (by rw [show a.toList = a.data.toList from ByteArray.toList_eq a, show b.toList = b.data.toList from ByteArray.toList_eq b] at this; exact this)
theorem rounds20a (lp : Lp U) {a b : IRs} (ha : Sm a.Fs.length) (hp : ∀ z ∈ a.Fs, Sn z.Params.length) (hab : a.Fs.length = b.Fs.length) : fnLoop X Ic an20 lp Try.f20 0 (a.Fs.length + 1) (g20_S0 a b 0) = some (cond (eqF a.Fs b.Fs) (.exit 0, Z20 a b) (.ret, Y20 a b)) :=
  eq_roundsG (fnl := fun n st => fnLoop X Ic an20 lp Try.f20 0 n st) (S := g20_S0 a b) ha hab (fun N v x y h0 h1 hx hy => by
    have hk := hp x (getI_mem hx)
    dsimp only
    rw [g20_e0, decide_eq_true h1, hx, hy]
    simp only [cond_true, Option.bind_some, beq_ba]
    rw [if_pos hk]
    obtain ⟨n1, p1, r1, f1, l1⟩ := x
    obtain ⟨n2, p2, r2, f2, l2⟩ := y
    unfold eqI
    by_cases e1 : n1 = n2 <;> by_cases e2 : p1 = p2 <;> by_cases e3 : r1 = r2 <;> by_cases e4 : f1 = f2 <;> by_cases e5 : l1 = l2 <;> simp [e1, e2, e3, e4, e5] <;> rfl) (fun N v h => by dsimp only; rw [g20_e0, decide_eq_false h]; rfl) a.Fs.length 0 (Int.le_refl 0) (by omega)
def dl20a (s : TS U) : Option (IRs × IRs × Int) := match told s 188 [2, 3, 5] 0, s.objs with
  | some [a0, a1, a2], [o0, o1] =>
    match o0 with
    | .cells [q0, q1, q2, q3, q4, q5] false =>
      match q0 with
      | .lst .i64 a_G =>
        match q1 with
        | .lst .i64 a_F =>
          match q2 with
          | .lst .i64 a_V =>
            match q3 with
            | .lst .t69 a_Fs =>
              match q4 with
              | .lst .t65 a_C =>
                match q5 with
                | .v (.int .i64 a_Main) =>
                  match o1 with
                  | .cells [q6, q7, q8, q9, q10, q11] false =>
                    match q6 with
                    | .lst .i64 b_G =>
                      match q7 with
                      | .lst .i64 b_F =>
                        match q8 with
                        | .lst .i64 b_V =>
                          match q9 with
                          | .lst .t69 b_Fs =>
                            match q10 with
                            | .lst .t65 b_C =>
                              match q11 with
                              | .v (.int .i64 b_Main) =>
                                match a0 with
                                | .ref 0 0 0 =>
                                  match a1 with
                                  | .ref 1 0 0 =>
                                    match a2 with
                                    | .v (.int .i64 v) =>
                                      some ((⟨a_G, a_F, a_V, a_Fs, a_C, a_Main⟩ : IRs), (⟨b_G, b_F, b_V, b_Fs, b_C, b_Main⟩ : IRs), v)
                                    | _ => none
                                  | _ => none
                                | _ => none
                              | _ => none
                            | _ => none
                          | _ => none
                        | _ => none
                      | _ => none
                    | _ => none
                  | _ => none
                | _ => none
              | _ => none
            | _ => none
          | _ => none
        | _ => none
      | _ => none
    | _ => none
  | _, _ => none
theorem dl20a_ok {s : TS U} {a : IRs} {b : IRs} {v : Int} (h : dl20a s = some (a, b, v)) : s = mkS (U := U) 188 ([2, 3, 5].zip ([.ref 0 0 0, .ref 1 0 0, .v (.int .i64 v)] : List (TV U))) ([a.ob, b.ob] : List (TO U)) 0 := by
  unfold dl20a at h
  split at h <;> try (cases h; done)
  rename_i ht ho
  have hs := told_ok ht
  rw [ho] at hs
  repeat' split at h
  all_goals first | (cases h; done) | (cases h; exact hs)
def Pre20a (a b : IRs) (v : Int) : Prop := Sm a.Fs.length ∧ (∀ z ∈ a.Fs, Sn z.Params.length) ∧ a.Fs.length = b.Fs.length ∧ v = 0
instance (a b : IRs) (v : Int) : Decidable (Pre20a a b v) := by unfold Pre20a; infer_instance
def lc20a : LC U := .of2 dl20a (fun (a, b, v) => Pre20a a b v) (fun (a, b, v) => eqF a.Fs b.Fs) (.exit 0) (fun (a, b, v) => Z20 a b) .ret (fun (a, b, v) => Y20 a b)
def Y20b : TS U := mkS 188 [(4, .v (.bool false))] [] 0
def Z20b : TS U := mkS 188 [] [] 0
def S20b (a b : IRs) (v : Int) : TS U := mkS 188 [(2, .ref 0 0 0), (3, .ref 1 0 0), (8, .v (.int .i64 v))] [irObj a, irObj b] 0
theorem r20b (lp : Lp U) (a b : IRs) (N : Nat) (v0 : Int) : fnLoop X Ic an20 lp Try.f20 2 N.succ (S20b a b v0) =
  bif decide (v0 < (a.C.length : Int)) then
  (getI a.C v0).bind fun (z : X.U.T C.t65) =>
    (getI b.C v0).bind fun (z_1 : X.U.T C.t65) =>
      bif !decide (z.Fn = z_1.Fn) then some (Exit.ret, Y20b)
      else
        bif !decide (z.At = z_1.At) then some (Exit.ret, Y20b)
        else
          bif !decide (z.Op = z_1.Op) then some (Exit.ret, Y20b)
          else
            bif !decide (z.A = z_1.A) then some (Exit.ret, Y20b)
            else
              bif !decide (z.B = z_1.B) then some (Exit.ret, Y20b)
              else
                bif !decide (z.C = z_1.C) then some (Exit.ret, Y20b)
                else
                  bif !decide (z.Do = z_1.Do) then some (Exit.ret, Y20b)
                  else
                    bif !decide (z.N = z_1.N) then some (Exit.ret, Y20b)
                    else
                      if Sn z.Args.length then
                        bif !eqI z.Args z_1.Args then some (Exit.ret, Y20b)
                        else fnLoop X Ic an20 lp Try.f20 2 N (S20b a b (IntKind.i64.wrap (v0 + 1)))
                      else none
  else some (Exit.exit 2, Z20b) := by kernel_rfl
theorem rounds20b (lp : Lp U) {a b : IRs} (ha : Sm a.C.length) (hp : ∀ z ∈ a.C, Sn z.Args.length) (hab : a.C.length = b.C.length) : fnLoop X Ic an20 lp Try.f20 2 (a.C.length + 1) (S20b a b 0) = some (cond (eqC a.C b.C) (.exit 2, Z20b) (.ret, Y20b)) :=
  eq_roundsG (fnl := fun n st => fnLoop X Ic an20 lp Try.f20 2 n st) (S := S20b a b) ha hab (fun N v x y h0 h1 hx hy => by
    have hk := hp x (getI_mem hx)
    dsimp only
    rw [r20b, decide_eq_true h1, hx, hy]
    simp only [cond_true, Option.bind_some]
    rw [if_pos hk]
    by_cases e_Fn : x.Fn = y.Fn
    case neg =>
      rw [decide_eq_false e_Fn, decide_eq_false (fun h : x = y => e_Fn (by rw [h]))]
      rfl
    rw [decide_eq_true e_Fn]
    simp only [Bool.not_true, cond_false]
    by_cases e_At : x.At = y.At
    case neg =>
      rw [decide_eq_false e_At, decide_eq_false (fun h : x = y => e_At (by rw [h]))]
      rfl
    rw [decide_eq_true e_At]
    simp only [Bool.not_true, cond_false]
    by_cases e_Op : x.Op = y.Op
    case neg =>
      rw [decide_eq_false e_Op, decide_eq_false (fun h : x = y => e_Op (by rw [h]))]
      rfl
    rw [decide_eq_true e_Op]
    simp only [Bool.not_true, cond_false]
    by_cases e_A : x.A = y.A
    case neg =>
      rw [decide_eq_false e_A, decide_eq_false (fun h : x = y => e_A (by rw [h]))]
      rfl
    rw [decide_eq_true e_A]
    simp only [Bool.not_true, cond_false]
    by_cases e_B : x.B = y.B
    case neg =>
      rw [decide_eq_false e_B, decide_eq_false (fun h : x = y => e_B (by rw [h]))]
      rfl
    rw [decide_eq_true e_B]
    simp only [Bool.not_true, cond_false]
    by_cases e_C : x.C = y.C
    case neg =>
      rw [decide_eq_false e_C, decide_eq_false (fun h : x = y => e_C (by rw [h]))]
      rfl
    rw [decide_eq_true e_C]
    simp only [Bool.not_true, cond_false]
    by_cases e_Do : x.Do = y.Do
    case neg =>
      rw [decide_eq_false e_Do, decide_eq_false (fun h : x = y => e_Do (by rw [h]))]
      rfl
    rw [decide_eq_true e_Do]
    simp only [Bool.not_true, cond_false]
    by_cases e_N : x.N = y.N
    case neg =>
      rw [decide_eq_false e_N, decide_eq_false (fun h : x = y => e_N (by rw [h]))]
      rfl
    rw [decide_eq_true e_N]
    simp only [Bool.not_true, cond_false]
    unfold eqI
    by_cases e : x.Args = y.Args
    case neg =>
      rw [decide_eq_false e, decide_eq_false (fun h : x = y => e (by rw [h]))]
      rfl
    rw [decide_eq_true e, decide_eq_true (show x = y by cases x; cases y; simp_all)]
    rfl) (fun N v h => by dsimp only; rw [r20b, decide_eq_false h]; rfl) a.C.length 0 (Int.le_refl 0) (by omega)
def dl20b (s : TS U) : Option (IRs × IRs × Int) := match told s 188 [2, 3, 8] 0, s.objs with
  | some [a0, a1, a2], [o0, o1] =>
    match o0 with
    | .cells [q0, q1, q2, q3, q4, q5] false =>
      match q0 with
      | .lst .i64 a_G =>
        match q1 with
        | .lst .i64 a_F =>
          match q2 with
          | .lst .i64 a_V =>
            match q3 with
            | .lst .t69 a_Fs =>
              match q4 with
              | .lst .t65 a_C =>
                match q5 with
                | .v (.int .i64 a_Main) =>
                  match o1 with
                  | .cells [q6, q7, q8, q9, q10, q11] false =>
                    match q6 with
                    | .lst .i64 b_G =>
                      match q7 with
                      | .lst .i64 b_F =>
                        match q8 with
                        | .lst .i64 b_V =>
                          match q9 with
                          | .lst .t69 b_Fs =>
                            match q10 with
                            | .lst .t65 b_C =>
                              match q11 with
                              | .v (.int .i64 b_Main) =>
                                match a0 with
                                | .ref 0 0 0 =>
                                  match a1 with
                                  | .ref 1 0 0 =>
                                    match a2 with
                                    | .v (.int .i64 v) =>
                                      some ((⟨a_G, a_F, a_V, a_Fs, a_C, a_Main⟩ : IRs), (⟨b_G, b_F, b_V, b_Fs, b_C, b_Main⟩ : IRs), v)
                                    | _ => none
                                  | _ => none
                                | _ => none
                              | _ => none
                            | _ => none
                          | _ => none
                        | _ => none
                      | _ => none
                    | _ => none
                  | _ => none
                | _ => none
              | _ => none
            | _ => none
          | _ => none
        | _ => none
      | _ => none
    | _ => none
  | _, _ => none
theorem dl20b_ok {s : TS U} {a : IRs} {b : IRs} {v : Int} (h : dl20b s = some (a, b, v)) : s = mkS (U := U) 188 ([2, 3, 8].zip ([.ref 0 0 0, .ref 1 0 0, .v (.int .i64 v)] : List (TV U))) ([a.ob, b.ob] : List (TO U)) 0 := by
  unfold dl20b at h
  split at h <;> try (cases h; done)
  rename_i ht ho
  have hs := told_ok ht
  rw [ho] at hs
  repeat' split at h
  all_goals first | (cases h; done) | (cases h; exact hs)
def Pre20b (a b : IRs) (v : Int) : Prop := Sm a.C.length ∧ (∀ z ∈ a.C, Sn z.Args.length) ∧ a.C.length = b.C.length ∧ v = 0
instance (a b : IRs) (v : Int) : Decidable (Pre20b a b v) := by unfold Pre20b; infer_instance
def lc20b : LC U := .of2 dl20b (fun (a, b, v) => Pre20b a b v) (fun (a, b, v) => eqC a.C b.C) (.exit 2) (fun _ => Z20b) .ret (fun _ => Y20b)
def lp20 : Lp U := lpL [(0, lc20a), (2, lc20b)]
theorem lp20_ok : ∀ c, Try.f20.body = some c → LpOk X Ic an20 lp20 (loops c 0) := lpL_ok (by kernel_rfl) fun b L hm st p hs => by
  cases hm with
  | head =>
    obtain ⟨⟨a, b, v⟩, hx, ⟨h1, h2, h3, rfl⟩, rfl⟩ := LC.of2_some hs
    obtain rfl := dl20a_ok hx
    exact ⟨_, rounds20a _ h1 h2 h3⟩
  | tail _ hm => cases hm with
    | head =>
      obtain ⟨⟨a, b, v⟩, hx, ⟨h1, h2, h3, rfl⟩, rfl⟩ := LC.of2_some hs
      obtain rfl := dl20b_ok hx
      exact ⟨_, rounds20b _ h1 h2 h3⟩
    | tail _ h => cases h
theorem e20 (a : IRs) (b : IRs) : (evFn X Ic an20 lp20 Try.f20 [] [irV a, irV b] fun (o : List (TO X.U)) (v : TV X.U) =>
  some (o, v)) =
  bif !decide (a.Main = b.Main) then some ([], TV.v (Value.bool false))
else
  if Sn a.G.length then
    bif !eqI a.G b.G then some ([], TV.v (Value.bool false))
    else
      if Sn a.F.length then
        bif !eqI a.F b.F then some ([], TV.v (Value.bool false))
        else
          if Sn a.V.length then
            bif !eqI a.V b.V then some ([], TV.v (Value.bool false))
            else
              bif !decide ((↑a.Fs.length : Int) = (↑b.Fs.length : Int)) then some ([], TV.v (Value.bool false))
              else
                bif !decide ((↑a.C.length : Int) = (↑b.C.length : Int)) then some ([], TV.v (Value.bool false))
                else
                  if Pre20a a b 0 then
                    bif eqF a.Fs b.Fs then
                      if Pre20b a b 0 then
                        bif eqC a.C b.C then some ([], TV.v (Value.bool true)) else some ([], TV.v (Value.bool false))
                      else none
                    else some ([], TV.v (Value.bool false))
                  else none
          else none
      else none
  else none := by kernel_rfl
deriving instance DecidableEq for IRs
def SameOk (a : IRs) : Prop := (Sn a.G.length ∧ Sn a.F.length ∧ Sn a.V.length) ∧ (Sm a.Fs.length ∧ Sm a.C.length) ∧ (∀ z ∈ a.Fs, Sn z.Params.length) ∧ ∀ z ∈ a.C, Sn z.Args.length
instance (a : IRs) : Decidable (SameOk a) := by unfold SameOk; infer_instance
def sSameR : Spc U := .of dII (fun (a, b) => SameOk a) (fun _ => []) fun (a, b) => .v (.bool (decide (a = b)))
theorem sSameR_ok : SpecOk Try.prog 20 sSameR := by
  refine fn_ok X_ok mixed Ic_ok an20 lp20 Try.func20 (by kernel_rfl) (by kernel_rfl) lp20_ok fun objs args x hx hp => ?_
  obtain ⟨a, b⟩ := x
  obtain ⟨rfl, rfl⟩ := dII_ok hx
  dsimp only at hp ⊢
  refine (e20 a b).trans ?_
  obtain ⟨⟨h1, h2, h3⟩, ⟨h4, h5⟩, h6, h7⟩ := hp
  rw [if_pos h1, if_pos h2, if_pos h3]
  unfold eqI
  by_cases e1 : a.Main = b.Main
  case neg => rw [decide_eq_false e1, decide_eq_false (fun h : a = b => e1 (by rw [h]))]; rfl
  by_cases e2 : a.G = b.G
  case neg => rw [decide_eq_true e1, decide_eq_false e2, decide_eq_false (fun h : a = b => e2 (by rw [h]))]; rfl
  by_cases e3 : a.F = b.F
  case neg => rw [decide_eq_true e1, decide_eq_true e2, decide_eq_false e3, decide_eq_false (fun h : a = b => e3 (by rw [h]))]; rfl
  by_cases e4 : a.V = b.V
  case neg => rw [decide_eq_true e1, decide_eq_true e2, decide_eq_true e3, decide_eq_false e4, decide_eq_false (fun h : a = b => e4 (by rw [h]))]; rfl
  rw [decide_eq_true e1, decide_eq_true e2, decide_eq_true e3, decide_eq_true e4]
  simp only [Bool.not_true, cond_false]
  by_cases e5 : (a.Fs.length : Int) = (b.Fs.length : Int)
  case neg => rw [decide_eq_false e5, decide_eq_false (fun h : a = b => e5 (by rw [h]))]; rfl
  by_cases e6 : (a.C.length : Int) = (b.C.length : Int)
  case neg => rw [decide_eq_true e5, decide_eq_false e6, decide_eq_false (fun h : a = b => e6 (by rw [h]))]; rfl
  rw [decide_eq_true e5, decide_eq_true e6, if_pos (show Pre20a a b 0 from ⟨h4, h6, by omega, rfl⟩), if_pos (show Pre20b a b 0 from ⟨h5, h7, by omega, rfl⟩)]
  unfold eqF eqC
  by_cases e7 : a.Fs = b.Fs
  case neg => rw [decide_eq_false e7, decide_eq_false (fun h : a = b => e7 (by rw [h]))]; rfl
  by_cases e8 : a.C = b.C
  case neg => rw [decide_eq_true e7, decide_eq_false e8, decide_eq_false (fun h : a = b => e8 (by rw [h]))]; rfl
  rw [decide_eq_true e7, decide_eq_true e8, decide_eq_true (show a = b by cases a; cases b; simp_all)]
  rfl
end Go.Proofs.Ytpkgikchphgfaaa.Ic

/- Programs as bytes: the bytes tell the program. -/
namespace Go.Proofs.Ytpkgikchphgfaaa.Ic
open Go Go.RowKit Go.Proofs.Ytpkgikchphgfaaa.Eng Go.Proofs.Ytpkgikchphgfaaa.Fl
set_option linter.unusedVariables false
set_option linter.unusedSimpArgs false
def uL (x : Int) : List UInt8 := bL (IntKind.u64.wrap x).toNat
def fL (z : R69) : List UInt8 := xL z.Name ++ (rL z.Params ++ (uL z.Ret ++ (uL z.First ++ uL z.Last)))
def cL (z : R65) : List UInt8 := rL [z.Fn, z.At, z.Op, z.A, z.B, z.C, z.Do] ++ (bL (zig z.N).toNat ++ rL z.Args)
def pL (o : IRs) : List UInt8 := rL o.G ++ (rL o.F ++ (rL o.V ++ (uL o.Main ++ (uL o.Fs.length ++ (o.Fs.flatMap fL ++ (uL o.C.length ++ o.C.flatMap cL))))))
theorem fnB_L (z : R69) : tl8 (fnB z) = fL z := by
  unfold fnB fL uL
  simp only [tl8_append, textB_xL, rowB_rL, numB_bL, List.append_assoc]
theorem insB_L (z : R65) : tl8 (insBG zig z) = cL z := by
  unfold insBG cL
  simp only [tl8_append, rowB_rL, numB_bL, List.append_assoc]
theorem fnS_L : ∀ (l : List R69) (b : ByteArray), tl8 (l.foldl fnS b) = tl8 b ++ l.flatMap fL
  | [], b => (List.append_nil _).symm
  | x :: l, b => by rw [List.foldl_cons, fnS_L l, fnS, tl8_append, fnB_L, List.flatMap_cons, List.append_assoc]
theorem insS_L : ∀ (l : List R65) (b : ByteArray), tl8 (l.foldl (insSG zig) b) = tl8 b ++ l.flatMap cL
  | [], b => (List.append_nil _).symm
  | x :: l, b => by rw [List.foldl_cons, insS_L l, insSG, tl8_append, insB_L, List.flatMap_cons, List.append_assoc]
theorem putB_L (o : IRs) : tl8 (putB o) = pL o := by
  unfold putB codeB codeBG fnsB headB pL uL
  rw [insS_L, tl8_append, fnS_L]
  simp only [tl8_append, rowB_rL, numB_bL, List.append_assoc]
def Inj {α : Type} (P : α → Prop) (f : α → List UInt8) : Prop := ∀ a b s t, P a → P b → f a ++ s = f b ++ t → a = b ∧ s = t
theorem flat_injG {α : Type} {P : α → Prop} {f : α → List UInt8} (hf : Inj P f) : ∀ (l m : List α) (s t : List UInt8), l.length = m.length → (∀ x ∈ l, P x) → (∀ x ∈ m, P x) → l.flatMap f ++ s = m.flatMap f ++ t → l = m ∧ s = t
  | [], [], s, t, _, _, _, h => ⟨rfl, h⟩
  | [], _ :: _, _, _, hl, _, _, _ => by cases hl
  | _ :: _, [], _, _, hl, _, _, _ => by cases hl
  | x :: l, y :: m, s, t, hl, h1, h2, h => by
    rw [List.flatMap_cons, List.flatMap_cons, List.append_assoc, List.append_assoc] at h
    obtain ⟨h3, h4⟩ := hf _ _ _ _ (h1 x (.head _)) (h2 y (.head _)) h
    obtain ⟨h5, h6⟩ := flat_injG hf l m s t (by simpa using hl) (fun x hx => h1 x (.tail _ hx)) (fun x hx => h2 x (.tail _ hx)) h4
    rw [h3, h5]
    exact ⟨rfl, h6⟩
theorem uL_inj : Inj R64 uL := fun a b s t ha hb h => by
  obtain ⟨h1, h2⟩ := bL_inj _ _ h
  exact ⟨u_inj ha hb h1, h2⟩
def RowR (l : List Int) : Prop := l.length ≤ 100000000 ∧ ∀ x ∈ l, R64 x
theorem rL_injG : Inj RowR rL := fun a b s t ha hb h => rL_inj ha.1 hb.1 ha.2 hb.2 h
def R69R (z : R69) : Prop := z.Name.size ≤ 100000000 ∧ RowR z.Params ∧ R64 z.Ret ∧ R64 z.First ∧ R64 z.Last
def R65R (z : R65) : Prop := (R64 z.Fn ∧ R64 z.At ∧ R64 z.Op ∧ R64 z.A ∧ R64 z.B ∧ R64 z.C ∧ R64 z.Do) ∧ R64 z.N ∧ RowR z.Args
def IRR (o : IRs) : Prop := RowR o.G ∧ RowR o.F ∧ RowR o.V ∧ R64 o.Main ∧ (o.Fs.length ≤ 100000000 ∧ ∀ z ∈ o.Fs, R69R z) ∧ o.C.length ≤ 100000000 ∧ ∀ z ∈ o.C, R65R z
theorem fL_inj : Inj R69R fL := fun a b s t ha hb h => by
  unfold fL at h
  simp only [List.append_assoc] at h
  obtain ⟨a1, a2, a3, a4, a5⟩ := ha
  obtain ⟨b1, b2, b3, b4, b5⟩ := hb
  obtain ⟨e1, h⟩ := xL_inj a1 b1 h
  obtain ⟨e2, h⟩ := rL_injG _ _ _ _ a2 b2 h
  obtain ⟨e3, h⟩ := uL_inj _ _ _ _ a3 b3 h
  obtain ⟨e4, h⟩ := uL_inj _ _ _ _ a4 b4 h
  obtain ⟨e5, h⟩ := uL_inj _ _ _ _ a5 b5 h
  exact ⟨by cases a; cases b; simp_all, h⟩
theorem zigT_inj {x y : Int} (hx : R64 x) (hy : R64 y) (h : (zig x).toNat = (zig y).toNat) : x = y := by
  have h1 := zig_nn hx
  have h2 := zig_nn hy
  exact zig_inj hx hy (by omega)
theorem cL_inj : Inj R65R cL := fun a b s t ha hb h => by
  unfold cL at h
  simp only [List.append_assoc] at h
  obtain ⟨⟨x1, x2, x3, x4, x5, x6, x7⟩, a2, a3⟩ := ha
  obtain ⟨⟨y1, y2, y3, y4, y5, y6, y7⟩, b2, b3⟩ := hb
  obtain ⟨e1, h⟩ := rL_injG _ _ _ _ ⟨by show 7 ≤ _; decide, by simp only [List.mem_cons, List.not_mem_nil, or_false]; rintro x (rfl | rfl | rfl | rfl | rfl | rfl | rfl) <;> assumption⟩ ⟨by show 7 ≤ _; decide, by simp only [List.mem_cons, List.not_mem_nil, or_false]; rintro x (rfl | rfl | rfl | rfl | rfl | rfl | rfl) <;> assumption⟩ h
  obtain ⟨e2, h⟩ := bL_inj _ _ h
  have e2 := zigT_inj a2 b2 e2
  obtain ⟨e3, h⟩ := rL_injG _ _ _ _ a3 b3 h
  exact ⟨by cases a; cases b; simp_all, h⟩
theorem len_R {n : Nat} (h : n ≤ 100000000) : R64 (n : Int) := ⟨by omega, by omega⟩
theorem pL_inj {a b : IRs} (ha : IRR a) (hb : IRR b) (h : pL a = pL b) : a = b := by
  unfold pL at h
  obtain ⟨a1, a2, a3, a4, ⟨a5, a6⟩, a7, a8⟩ := ha
  obtain ⟨b1, b2, b3, b4, ⟨b5, b6⟩, b7, b8⟩ := hb
  obtain ⟨e1, h⟩ := rL_injG _ _ _ _ a1 b1 h
  obtain ⟨e2, h⟩ := rL_injG _ _ _ _ a2 b2 h
  obtain ⟨e3, h⟩ := rL_injG _ _ _ _ a3 b3 h
  obtain ⟨e4, h⟩ := uL_inj _ _ _ _ a4 b4 h
  obtain ⟨e5, h⟩ := uL_inj _ _ _ _ (len_R a5) (len_R b5) h
  obtain ⟨e6, h⟩ := flat_injG fL_inj _ _ _ _ (by omega) a6 b6 h
  obtain ⟨e7, h⟩ := uL_inj _ _ _ _ (len_R a7) (len_R b7) h
  obtain ⟨e8, h⟩ := flat_injG cL_inj _ _ [] [] (by omega) a8 b8 (by rw [List.append_nil, List.append_nil]; exact h)
  cases a; cases b; simp_all
theorem putE_eq {a b : IRs} (ha : IRR a) (hb : IRR b) : putE a b = decide (a = b) := by
  unfold putE
  rw [beq_ba]
  by_cases h : a = b
  · subst h; simp
  · rw [decide_eq_false h, decide_eq_false fun hc => h (pL_inj ha hb (by rw [← putB_L, ← putB_L, hc]))]
end Go.Proofs.Ytpkgikchphgfaaa.Ic

/- Numbers of a program that is given have 64 bits. -/
namespace Go.Proofs.Ytpkgikchphgfaaa.Ic
open Go Go.RowKit Go.Proofs.Ytpkgikchphgfaaa.Eng Go.Proofs.Ytpkgikchphgfaaa.Fl
set_option linter.unusedVariables false
set_option linter.unusedSimpArgs false
def CR (z : R65) : Prop := R65R z ∧ Sn z.Args.length
theorem fnI_in' (l : List R90) (s : ByteArray) : fnI l s = -1 ∨ 0 ≤ fnI l s ∧ fnI l s < l.length := upx_in _ _ _ _ _ _ (Int.le_refl 0)
theorem atP_R {l : List R82} (h : Sn l.length) (s : ByteArray) : R64 (atP l s) := by
  unfold Sn at h
  have := atP_in l s
  exact ⟨by omega, by omega⟩
theorem fnP_R {b : BS} (h : Sn b.N.length) (s : ByteArray) : R64 (b.fnP s) := by
  unfold Sn at h
  unfold BS.fnP
  rcases fnI_in' b.N s with h1 | h1
  · rw [h1]; exact R64.z
  · rw [decide_eq_true h1.1]; exact ⟨by show _ ≤ fnI b.N s; omega, by show fnI b.N s < _; omega⟩
theorem v_R (b : BS) (s : ByteArray) : R64 (b.v s) := R64.of_wrap _
theorem m1_R : R64 (-1) := ⟨by decide, by decide⟩
theorem ins3_R {op a b c d n : Int} (h1 : R64 op) (h2 : R64 a) (h3 : R64 b) (h4 : R64 c) (h5 : R64 d) (h6 : R64 n) : CR (ins3 op a b c d n) :=
  ⟨⟨⟨R64.z, R64.z, h1, h2, h3, h4, h5⟩, h6, ⟨Nat.zero_le _, fun x h => by cases h⟩⟩, Nat.zero_le _⟩
theorem kR (k : Int) (h0 : 0 ≤ k) (h1 : k ≤ 100) : R64 k := ⟨by omega, by omega⟩
theorem call_R {b : BS} (hb : BSz b) {op a : Int} (h1 : R64 op) (h2 : R64 a) {e : R112} (he : Sn e.Args.length) : CR (b.call op a e) := by
  have hl : Sn (ag79 b e.Args).length := by unfold ag79; rw [List.length_map]; exact he
  have hr : RowR (ag79 b e.Args) := ⟨by unfold Sn at hl; omega, fun x hx => by
    unfold ag79 at hx
    obtain ⟨y, _, rfl⟩ := List.mem_map.1 hx
    exact v_R _ _⟩
  unfold BS.call
  cases decide (e.Kind = 11) with
  | true => exact ⟨⟨⟨R64.z, R64.z, h1, h2, m1_R, v_R _ _, R64.z⟩, R64.z, hr⟩, hl⟩
  | false => exact ⟨⟨⟨R64.z, R64.z, h1, h2, fnP_R hb.2.2.1 _, m1_R, R64.z⟩, R64.z, hr⟩, hl⟩
theorem set_R {b : BS} (hb : BSz b) {a : Int} (ha : R64 a) {e : R112} (he : ER e) (hl : Sn e.Args.length) : CR (b.set a e) := by
  have hv := v_R b
  have hg := atP_R hb.1
  have hf := atP_R hb.2.1
  have hn := fnP_R hb.2.2.1
  have hz := R64.z
  obtain ⟨h1, h2⟩ := he
  unfold BS.set
  simp only [Bool.cond_eq_ite]
  repeat' split
  all_goals first
    | exact call_R hb (kR _ (by decide) (by decide)) ha hl
    | exact ins3_R (kR _ (by decide) (by decide)) ha (by first | exact hv _ | exact hg _ | exact hf _ | exact hn _ | exact hz | exact h1 | exact h2) (by first | exact hv _ | exact hf _ | exact hz) (by first | exact hz | exact h1) (by first | exact hz | exact h2)
theorem one_R {b : BS} (hb : BSz b) : ∀ {z : R114}, SR z → Sn (cntS z) → CR (b.one z)
  | .mk k a to fi fr e bd el, hs, hl => by
    rw [SR] at hs
    have he : Sn e.Args.length := by rw [cntS] at hl; unfold Sn at hl ⊢; omega
    have hv := v_R b
    have hg := atP_R hb.1
    have hf := atP_R hb.2.1
    have hz := R64.z
    have hm := m1_R
    unfold BS.one
    simp only [Bool.cond_eq_ite]
    repeat' split
    all_goals first
      | exact call_R hb (kR _ (by decide) (by decide)) hm he
      | exact set_R hb (hv _) hs.2.1 he
      | exact ins3_R (kR _ (by decide) (by decide)) (by first | exact hv _ | exact hg _ | exact hm | exact hz) (by first | exact hv _ | exact hz) (by first | exact hf _ | exact hz) hz hz
def BR (b : BS) : Prop := BSz b ∧ R64 b.Fn ∧ ∀ z ∈ b.C, CR z
theorem BR.put {b : BS} (h : BR b) {a : Int} (ha : R64 a) {x : R65} (hx : CR x) : BR (b.put a x) := by
  obtain ⟨⟨⟨x1, x2, x3, x4, x5, x6, x7⟩, x8, x9⟩, x0⟩ := hx
  exact ⟨h.1, h.2.1, snoc_all h.2.2 ⟨⟨⟨h.2.1, ha, x3, x4, x5, x6, x7⟩, x8, x9⟩, x0⟩⟩
theorem i18_R {a b c : Int} (h1 : R64 a) (h2 : R64 b) (h3 : R64 c) : CR (i18 a b c) := ins3_R (kR _ (by decide) (by decide)) h1 h2 h3 R64.z R64.z
theorem i17_R {b : Int} (h : R64 b) : CR (i17 b) := ins3_R (kR _ (by decide) (by decide)) R64.z h R64.z R64.z R64.z
mutual
theorem blS_R : ∀ (z : R114) (b : BS), SR z → Sn (cntS z) → BR b → BR (blS z b)
  | .mk k a to fi fr e bd l, b, hs, hc, hb => by
    have hone := one_R hb.1 hs hc
    rw [SR] at hs
    rw [cntS] at hc
    have h1 := fun d => blL_R bd d hs.2.2.1 (by unfold Sn at hc ⊢; omega)
    have h2 := fun d => blL_R l d hs.2.2.2 (by unfold Sn at hc ⊢; omega)
    rw [blS]
    cases decide (k = 4) with
    | true =>
      cases decide ((l.length : Int) = 0) with
      | true => exact h1 _ (hb.put hs.1 (i18_R (v_R _ _) (R64.of_wrap _) (R64.of_wrap _)))
      | false => exact h2 _ ((h1 _ (hb.put hs.1 (i18_R (v_R _ _) (R64.of_wrap _) (R64.of_wrap _)))).put hs.1 (i17_R (R64.of_wrap _)))
    | false =>
      cases decide (k = 5) with
      | true => exact (h1 _ (hb.put hs.1 (i18_R (v_R _ _) (R64.of_wrap _) (R64.of_wrap _)))).put hs.1 (i17_R (R64.of_wrap _))
      | false => exact hb.put hs.1 hone
theorem blL_R : ∀ (l : List R114) (b : BS), SRL l → Sn (cntL l) → BR b → BR (blL l b)
  | [], b, hs, hc, hb => by rw [blL]; exact hb
  | x :: l, b, hs, hc, hb => by
    rw [SRL] at hs
    rw [cntL] at hc
    rw [blL]
    exact blL_R l _ hs.2 (by unfold Sn at hc ⊢; omega) (blS_R x b hs.1 (by unfold Sn at hc ⊢; omega) hb)
end
theorem fnsW_len : ∀ l : List R90, l.length ≤ fnsW l
  | [] => Nat.zero_le _
  | x :: l => by have := fnsW_len l; rw [List.length_cons, fnsW, fnW]; omega
theorem parI_R (o : IRs) (z : R90) (h : Sn z.Params.length) : (parI o z).length ≤ z.Params.length ∧ ∀ x ∈ parI o z, R64 x := by
  have key : ∀ (N : Nat) (ps : List Int) (i : Int), 0 ≤ i → (ps.length : Int) = i → i ≤ (z.Params.length : Int) → (∀ x ∈ ps, R64 x) → (ixL z.Params.length (st6 o.V.length) N ps i).length ≤ z.Params.length ∧ ∀ x ∈ ixL z.Params.length (st6 o.V.length) N ps i, R64 x := by
    intro N
    induction N with
    | zero => intro ps i h0 h1 h2 h3; unfold ixL; exact ⟨by omega, h3⟩
    | succ N ih =>
      intro ps i h0 h1 h2 h3
      unfold ixL
      split
      · exact ih _ _ (by omega) (by unfold st6; rw [List.length_append]; simp only [List.length_singleton]; omega) (by omega) (snoc_all h3 (R64.of_wrap _))
      · exact ⟨by omega, h3⟩
  exact key _ [] 0 (Int.le_refl 0) rfl (by omega) fun x h => by cases h
def FnR (z : R69) : Prop := R69R z ∧ Sn z.Params.length
def OR' (o : IRs) : Prop := (∀ x ∈ o.V, R64 x) ∧ R64 o.Main ∧ (∀ z ∈ o.Fs, FnR z) ∧ ∀ z ∈ o.C, CR z
theorem app_all {α : Type} {P : α → Prop} {l m : List α} (h : ∀ x ∈ l, P x) (h2 : ∀ x ∈ m, P x) : ∀ x ∈ l ++ m, P x := fun x hx => by
  rcases List.mem_append.1 hx with hx | hx
  · exact h x hx
  · exact h2 x hx
theorem lwL_R {t : TR} (ht : TrOk t) (hr : TrR t) : ∀ (r : List R90) (o : IRs) (v : Int), 0 ≤ v → t.N.drop v.toNat = r → IrB t o r → OR' o → OR' (lwL t r o v)
  | [], o, v, h0, hd, ho, h => h
  | z :: r, o, v, h0, hd0, ho, h => by
    have hlen : v < (t.N.length : Int) := by
      have := congrArg List.length hd0
      rw [List.length_drop, List.length_cons] at this
      omega
    have hx : t.N[v.toNat]? = some t.N[v.toNat] := List.getElem?_eq_getElem (by omega)
    have hd : t.N.drop v.toNat = t.N[v.toNat] :: t.N.drop (v.toNat + 1) := List.drop_eq_getElem_cons (by omega)
    rw [hd] at hd0
    injection hd0 with hz hd0
    have hg : getI t.N v = some z := by unfold getI; rw [if_pos h0, hx, hz]
    have hfw : fnW z ≤ 1000000 := by
      have := fnsW_at t.N v.toNat z (by rw [hx, hz])
      have := ht.2.2
      omega
    have hb := (round4 (R := Unit) (K := fun _ _ => none) ht h0 hlen hg ho hfw).2
    rw [lwL]
    refine lwL_R ht hr r _ (v + 1) (by omega) (by rw [show (v + 1).toNat = v.toNat + 1 by omega]; exact hd0) hb ?_
    have hzm : z ∈ t.N := getI_mem hg
    obtain ⟨f1, f2, f3, f4, f5, f6⟩ := hr.2.2 z hzm
    have hnl := fnsW_len t.N
    have htN := ht.2.2
    have hw : z.Params.length + (z.Vars.length + cntL z.Body) ≤ 1000000 := by unfold fnW at hfw; omega
    have hvR : R64 v := ⟨by omega, by omega⟩
    have hB0 : BR (lb0 t o v z) := ⟨⟨by have := ht.1; show t.G.length ≤ _; omega, by have := ht.2.1; show t.F.length ≤ _; omega, by show t.N.length ≤ _; omega, by show ([] ++ z.Params ++ z.Vars).length ≤ _; rw [List.nil_append, List.length_append]; omega⟩, hvR, fun z h => by cases h⟩
    have hB1 := (blL_R z.Body _ f6 (by unfold Sn; omega) hB0).put f2 (ins3_R (kR 16 (by decide) (by decide)) m1_R R64.z R64.z R64.z R64.z)
    have hC : ∀ x ∈ codI t o v z, CR x := hB1.2.2
    obtain ⟨p1, p2⟩ := parI_R o z (by unfold Sn; omega)
    have hlast : (o.C ++ codI t o v z).length ≤ 3000000 := by
      have := hb.2.1
      have e : (lwF t o v z).C = o.C ++ codI t o v z := rfl
      rw [e] at this
      omega
    have hfirst : o.C.length ≤ 3000000 := by have := ho.2.1; omega
    refine ⟨app_all h.1 fun x hx => ?_, ?_, snoc_all h.2.2.1 ⟨⟨by show z.Name.size ≤ _; omega, ⟨by show (parI o z).length ≤ _; omega, p2⟩, f3, ⟨by show _ ≤ (o.C.length : Int); omega, by show (o.C.length : Int) < _; omega⟩, ⟨by show _ ≤ ((o.C ++ codI t o v z).length : Int); omega, by show ((o.C ++ codI t o v z).length : Int) < _; omega⟩⟩, by show (parI o z).length ≤ _; omega⟩, app_all h.2.2.2 hC⟩
    · obtain ⟨d, hd, rfl⟩ := List.mem_map.1 hx
      rw [List.nil_append] at hd
      rcases List.mem_append.1 hd with hd | hd
      · exact (f4 d hd).1
      · exact (f5 d hd).1
    · show R64 (cond (z.Name.toList == bMain.toList) v o.Main)
      cases z.Name.toList == bMain.toList with
      | true => exact hvR
      | false => exact h.2.1
theorem lwL_GF (t : TR) : ∀ (r : List R90) (o : IRs) (v : Int), (lwL t r o v).G = o.G ∧ (lwL t r o v).F = o.F
  | [], o, v => ⟨rfl, rfl⟩
  | z :: r, o, v => by rw [lwL]; exact lwL_GF t r _ _
def GvR (o : IRs) : Prop := PutOk o ∧ SameOk o ∧ IRR o
theorem lower_R {t : TR} (ht : TrOk t) (hr : TrR t) : GvR (lower t) := by
  have hb : IrB t ⟨t.G.map R82.Type_, t.F.map R82.Type_, [], [], [], 0⟩ t.N := by
    have := ht.2.2
    exact ⟨by show 0 + _ ≤ _; omega, by show 0 + _ ≤ _; omega, by show 0 + _ ≤ _; omega⟩
  obtain ⟨h1, h2, h3, h4⟩ := lwL_R ht hr t.N _ 0 (Int.le_refl 0) rfl hb ⟨fun x h => (by cases h), R64.z, fun x h => (by cases h), fun x h => by cases h⟩
  obtain ⟨a, b, c⟩ := lower_B ht
  obtain ⟨e1, e2⟩ := lwL_GF t t.N ⟨t.G.map R82.Type_, t.F.map R82.Type_, [], [], [], 0⟩ 0
  have eG : (lower t).G = t.G.map R82.Type_ := e1
  have eF : (lower t).F = t.F.map R82.Type_ := e2
  have lG : (lower t).G.length ≤ 1000000 := by rw [eG, List.length_map]; exact ht.1
  have lF : (lower t).F.length ≤ 1000000 := by rw [eF, List.length_map]; exact ht.2.1
  have rG : ∀ x ∈ (lower t).G, R64 x := by rw [eG]; intro x hx; obtain ⟨d, hd, rfl⟩ := List.mem_map.1 hx; exact (hr.1 d hd).1
  have rF : ∀ x ∈ (lower t).F, R64 x := by rw [eF]; intro x hx; obtain ⟨d, hd, rfl⟩ := List.mem_map.1 hx; exact (hr.2.1 d hd).1
  change ∀ x ∈ (lower t).V, R64 x at h1
  change R64 (lower t).Main at h2
  change ∀ z ∈ (lower t).Fs, FnR z at h3
  change ∀ z ∈ (lower t).C, CR z at h4
  refine ⟨⟨⟨by unfold Sm; omega, by unfold Sm; omega, by unfold Sm; omega⟩, ⟨by unfold Sm; omega, by unfold Sm; omega⟩, fun z hz => ⟨(h3 z hz).1.1, by have := (h3 z hz).2; unfold Sn at this; unfold Sm; omega⟩, fun z hz => by have := (h4 z hz).2; unfold Sn at this; unfold Sm; omega⟩,
    ⟨⟨by unfold Sn; omega, by unfold Sn; omega, by unfold Sn; omega⟩, ⟨by unfold Sm; omega, by unfold Sm; omega⟩, fun z hz => (h3 z hz).2, fun z hz => (h4 z hz).2⟩,
    ⟨by omega, rG⟩, ⟨by omega, rF⟩, ⟨by omega, h1⟩, h2, ⟨by omega, fun z hz => (h3 z hz).1⟩, by omega, fun z hz => (h4 z hz).1⟩
theorem ir0_R : GvR ir0 := by
  have hz : TrR ⟨[], [], []⟩ := And.intro (by intro d h; cases h) (And.intro (by intro d h; cases h) (by intro d h; cases h))
  have hk : TrOk ⟨[], [], []⟩ := And.intro (Nat.zero_le _) (And.intro (Nat.zero_le _) (Nat.zero_le _))
  exact lower_R hk hz
theorem given_R (s : ByteArray) : GvR (given s).1 := by
  have h2 := (cut3_ok s).2
  have h3 := lower_R (parse_ok h2) (parse_R h2)
  unfold given
  cases !decide ((parseP (cut3 s)).2.1 = 0) with
  | true => exact ir0_R
  | false =>
    cases !decide ((chk (parseP (cut3 s)).1).Code = 0) with
    | true => exact ir0_R
    | false => exact h3
end Go.Proofs.Ytpkgikchphgfaaa.Ic

