/- Texts of this claim, put together: part 10. -/
import Derived.Test.YtmcflglkfgnbbaaMpI
/- Bytes read: Get of what was put (the node is known ahead). -/
namespace Go.Proofs.Ytmcflglkfgnbbaa.Nd
open Go Go.RowKit Go.Proofs.Ytmcflglkfgnbbaa.Eng
set_option linter.unusedVariables false
set_option linter.unusedSimpArgs false
set_option maxRecDepth 20000
/-- A leaf that may be put and read again. -/
def LfOk (ks : List ByteArray) (vs : List R33) : Prop := vs.length = ks.length ∧ ks.length ≤ 237 ∧ (∀ k ∈ ks, k.size ≤ 64) ∧ (∀ v ∈ vs, Vok v) ∧ Srt ks
def PgL (ks : List ByteArray) (vs : List R33) (b0 b1 b : Bool) (r : Rd) (m i : Int) : Prop := LfOk ks vs ∧ b0 = false ∧ b1 = true ∧ b = true ∧ r.E = 0 ∧ m = ks.length ∧ i = 0 ∧ tl8 r.S = allB (List.zipWith entB ks vs)
noncomputable instance (ks : List ByteArray) (vs : List R33) (b0 b1 b : Bool) (r : Rd) (m i : Int) : Decidable (PgL ks vs b0 b1 b r m i) := Classical.propDecidable _
def PgS (ks : List ByteArray) (b0 b1 L : Bool) (i : Int) : Prop := Srt ks ∧ ks.length ≤ 1000000 ∧ b0 = false ∧ b1 = L ∧ i = 1
noncomputable instance (ks : List ByteArray) (b0 b1 L : Bool) (i : Int) : Decidable (PgS ks b0 b1 L i) := Classical.propDecidable _
def PgT (ks : List ByteArray) (b0 b1 L : Bool) (i : Int) : Prop := PgS ks b0 b1 L i ∧ ks ≠ []
noncomputable instance (ks : List ByteArray) (b0 b1 L : Bool) (i : Int) : Decidable (PgT ks b0 b1 L i) := Classical.propDecidable _
def dl24l (s : TS U) : Option (Bool × Rd × Bool × Bool × Int × Int) := match told s 85 [1, 4, 6, 7, 28, 29] 0, s.objs with
  | some [a0, a1, a2, a3, a4, a5], [o0, o1, o2] =>
    match o0 with
    | .cells [q0, q1, q2, q3] false =>
      match q0 with
      | .v (.bool b0) =>
        match q1 with
        | .v (.slice none 0 0) =>
          match q2 with
          | .v (.slice none 0 0) =>
            match q3 with
            | .v (.slice none 0 0) =>
              match o1 with
              | .cells [q4, q5] false =>
                match q4 with
                | .v (.string r_S) =>
                  match q5 with
                  | .v (.int .i64 r_E) =>
                    match o2 with
                    | .cells [q6, q7, q8, q9] false =>
                      match q6 with
                      | .v (.bool b1) =>
                        match q7 with
                        | .v (.slice none 0 0) =>
                          match q8 with
                          | .v (.slice none 0 0) =>
                            match q9 with
                            | .v (.slice none 0 0) =>
                              match a0 with
                              | .v (.bool b) =>
                                match a1 with
                                | .ref 0 0 0 =>
                                  match a2 with
                                  | .ref 1 0 0 =>
                                    match a3 with
                                    | .ref 2 0 0 =>
                                      match a4 with
                                      | .v (.int .i64 m) =>
                                        match a5 with
                                        | .v (.int .i64 i) =>
                                          some (b0, (⟨r_S, r_E⟩ : Rd), b1, b, m, i)
                                        | _ => none
                                      | _ => none
                                    | _ => none
                                  | _ => none
                                | _ => none
                              | _ => none
                            | _ => none
                          | _ => none
                        | _ => none
                      | _ => none
                    | _ => none
                  | _ => none
                | _ => none
              | _ => none
            | _ => none
          | _ => none
        | _ => none
      | _ => none
    | _ => none
  | _, _ => none
theorem dl24l_ok {s : TS U} {b0 : Bool} {r : Rd} {b1 : Bool} {b : Bool} {m : Int} {i : Int} (h : dl24l s = some (b0, r, b1, b, m, i)) : s = mkS (U := U) 85 ([1, 4, 6, 7, 28, 29].zip ([.v (.bool b), .ref 0 0 0, .ref 1 0 0, .ref 2 0 0, .v (.int .i64 m), .v (.int .i64 i)] : List (TV U))) ([.cells [.v (.bool b0), .v (.slice none 0 0), .v (.slice none 0 0), .v (.slice none 0 0)] false, r.ob, .cells [.v (.bool b1), .v (.slice none 0 0), .v (.slice none 0 0), .v (.slice none 0 0)] false] : List (TO U)) 0 := by
  unfold dl24l at h
  split at h <;> try (cases h; done)
  rename_i ht ho
  have hs := told_ok ht
  rw [ho] at hs
  repeat' split at h
  all_goals first | (cases h; done) | (cases h; exact hs)
def dl24s (s : TS U) : Option (Bool × Bool × List ByteArray × List R33 × Int) := match told s 85 [4, 7, 10] 0, s.objs with
  | some [a0, a1, a2], [o0, o1, o2, o3] =>
    match o0 with
    | .cells [q0, q1, q2, q3] false =>
      match q0 with
      | .v (.bool b0) =>
        match q1 with
        | .v (.slice none 0 0) =>
          match q2 with
          | .v (.slice none 0 0) =>
            match q3 with
            | .v (.slice none 0 0) =>
              match o1 with
              | .cells [q4, q5, q6, q7] false =>
                match q4 with
                | .v (.bool b1) =>
                  match q5 with
                  | .full 2 =>
                    match q6 with
                    | .full 3 =>
                      match q7 with
                      | .v (.slice none 0 0) =>
                        match o2 with
                        | .row .str ks false =>
                          match o3 with
                          | .row .t33 vs false =>
                            match a0 with
                            | .ref 0 0 0 =>
                              match a1 with
                              | .ref 1 0 0 =>
                                match a2 with
                                | .v (.int .i64 i) =>
                                  some (b0, b1, ks, vs, i)
                                | _ => none
                              | _ => none
                            | _ => none
                          | _ => none
                        | _ => none
                      | _ => none
                    | _ => none
                  | _ => none
                | _ => none
              | _ => none
            | _ => none
          | _ => none
        | _ => none
      | _ => none
    | _ => none
  | _, _ => none
theorem dl24s_ok {s : TS U} {b0 : Bool} {b1 : Bool} {ks : List ByteArray} {vs : List R33} {i : Int} (h : dl24s s = some (b0, b1, ks, vs, i)) : s = mkS (U := U) 85 ([4, 7, 10].zip ([.ref 0 0 0, .ref 1 0 0, .v (.int .i64 i)] : List (TV U))) ([.cells [.v (.bool b0), .v (.slice none 0 0), .v (.slice none 0 0), .v (.slice none 0 0)] false, .cells [.v (.bool b1), .full 2, .full 3, .v (.slice none 0 0)] false, .row .str ks false, .row .t33 vs false] : List (TO U)) 0 := by
  unfold dl24s at h
  split at h <;> try (cases h; done)
  rename_i ht ho
  have hs := told_ok ht
  rw [ho] at hs
  repeat' split at h
  all_goals first | (cases h; done) | (cases h; exact hs)
def dl24n (s : TS U) : Option (Bool × Bool × Int) := match told s 85 [4, 7, 10] 0, s.objs with
  | some [a0, a1, a2], [o0, o1] =>
    match o0 with
    | .cells [q0, q1, q2, q3] false =>
      match q0 with
      | .v (.bool b0) =>
        match q1 with
        | .v (.slice none 0 0) =>
          match q2 with
          | .v (.slice none 0 0) =>
            match q3 with
            | .v (.slice none 0 0) =>
              match o1 with
              | .cells [q4, q5, q6, q7] false =>
                match q4 with
                | .v (.bool b1) =>
                  match q5 with
                  | .v (.slice none 0 0) =>
                    match q6 with
                    | .v (.slice none 0 0) =>
                      match q7 with
                      | .v (.slice none 0 0) =>
                        match a0 with
                        | .ref 0 0 0 =>
                          match a1 with
                          | .ref 1 0 0 =>
                            match a2 with
                            | .v (.int .i64 i) =>
                              some (b0, b1, i)
                            | _ => none
                          | _ => none
                        | _ => none
                      | _ => none
                    | _ => none
                  | _ => none
                | _ => none
              | _ => none
            | _ => none
          | _ => none
        | _ => none
      | _ => none
    | _ => none
  | _, _ => none
theorem dl24n_ok {s : TS U} {b0 : Bool} {b1 : Bool} {i : Int} (h : dl24n s = some (b0, b1, i)) : s = mkS (U := U) 85 ([4, 7, 10].zip ([.ref 0 0 0, .ref 1 0 0, .v (.int .i64 i)] : List (TV U))) ([.cells [.v (.bool b0), .v (.slice none 0 0), .v (.slice none 0 0), .v (.slice none 0 0)] false, .cells [.v (.bool b1), .v (.slice none 0 0), .v (.slice none 0 0), .v (.slice none 0 0)] false] : List (TO U)) 0 := by
  unfold dl24n at h
  split at h <;> try (cases h; done)
  rename_i ht ho
  have hs := told_ok ht
  rw [ho] at hs
  repeat' split at h
  all_goals first | (cases h; done) | (cases h; exact hs)
noncomputable def lg0 (ks : List ByteArray) (vs : List R33) : LC U := .of dl24l (fun (b0, r, b1, b, m, i) => PgL ks vs b0 b1 b r m i) (.exit 0) (fun _ => Z24 true ⟨#[]⟩ (lC ks) (lR ks vs))
noncomputable def lg2 : LC U := .of dl24s (fun (b0, b1, ks, vs, i) => PgT ks b0 b1 true i) (.exit 2) (fun (b0, b1, ks, vs, i) => mkS 85 [(4, .ref 0 0 0), (7, .ref 1 0 0)] [.cells [.v (.bool false), nlv, nlv, nlv] false, .cells [.v (.bool true), .full 2, .full 3, nlv] false, .row .str ks false, .row .t33 vs false] 0)
noncomputable def lg2n : LC U := .of dl24n (fun (b0, b1, i) => PgS [] b0 b1 true i) (.exit 2) (fun _ => Z24b true (lC2 []) (lR [] []))
noncomputable def lpg (ks : List ByteArray) (vs : List R33) : Lp U := match ks with
  | [] => lpL [(0, lg0 [] vs), (2, lg2n)]
  | x :: xs => lpL [(0, lg0 (x :: xs) vs), (2, lg2)]
theorem g24c (x : ByteArray) (xs : List
  ByteArray) (vs : List
  R33) (s : ByteArray) : (evFn X Eg an24 (lpg (x :: xs) vs) Try.f24 [] [TV.v (Value.string s), TV.v (Value.bool true)]
  fun (o : List (TO X.U)) (v : TV X.U) => some (o, v)) =
  if True then
  if PNv { S := s, E := 0 } 237 then
    if PgL (x :: xs) vs false true true { S := nrN s, E := 0 } (IntKind.i64.wrap (nvN s)) 0 then
      if PgT (x :: xs) false true true 1 then
        some
          ([],
            TV.tup
              [TV.agg [TV.v (Value.bool true), TV.lst C.str (x :: xs), TV.lst C.t33 vs, TV.v (Value.slice none 0 0)],
                TV.v (Value.int IntKind.i64 0)])
      else none
    else none
  else none
else none := by kernel_rfl
theorem g24n (s : ByteArray) : (evFn X Eg an24 (lpg [] []) Try.f24 [] [TV.v (Value.string s), TV.v (Value.bool true)]
  fun (o : List (TO X.U)) (v : TV X.U) => some (o, v)) =
  if True then
  if PNv { S := s, E := 0 } 237 then
    if PgL [] [] false true true { S := nrN s, E := 0 } (IntKind.i64.wrap (nvN s)) 0 then
      if PgS [] false true true 1 then
        some
          ([],
            TV.tup
              [TV.agg
                  [TV.v (Value.bool true), TV.v (Value.slice none 0 0), TV.v (Value.slice none 0 0),
                    TV.v (Value.slice none 0 0)],
                TV.v (Value.int IntKind.i64 0)])
      else none
    else none
  else none
else none := by kernel_rfl
theorem lg0_ok {l : List (Nat × LC U)} {ks : List ByteArray} {vs : List R33} {st : TS U} {p : Exit × TS U} (hs : (lg0 ks vs).F st (fun e s => some (e, s)) = some p) : ∃ N, fnLoop X Eg an24 (lpL l) Try.f24 0 N st = some p := by
  obtain ⟨⟨b0, r, b1, b, m, i⟩, hx, ⟨h, rfl, rfl, rfl, h4, rfl, rfl, h7⟩, rfl⟩ := LC.of_some hs
  obtain rfl := dl24l_ok hx
  obtain ⟨g1, g2, g3, g4, g5⟩ := h
  obtain ⟨t, e⟩ := r
  obtain rfl : e = 0 := h4
  exact ⟨_, rounds24l (lpL l) (ks.length : Int) (by omega) ks vs [] [] t 0 (Int.le_refl 0) (by omega) (Int.le_refl 0) rfl g1 g3 g4 h7⟩
theorem lg2_ok {l : List (Nat × LC U)} {st : TS U} {p : Exit × TS U} (hs : lg2.F st (fun e s => some (e, s)) = some p) : ∃ N, fnLoop X Eg an24 (lpL l) Try.f24 2 N st = some p := by
  obtain ⟨⟨b0, b1, ks, vs, i⟩, hx, ⟨⟨h1, h2, rfl, rfl, rfl⟩, hne⟩, rfl⟩ := LC.of_some hs
  obtain rfl := dl24s_ok hx
  cases ks with
  | nil => exact (hne rfl).elim
  | cons x xs => exact ⟨_, rounds24a (lpL l) .empty (x :: xs) vs h1 h2 (x :: xs).length 1 (by omega) (by omega)⟩
theorem lg2n_ok {l : List (Nat × LC U)} {st : TS U} {p : Exit × TS U} (hs : lg2n.F st (fun e s => some (e, s)) = some p) : ∃ N, fnLoop X Eg an24 (lpL l) Try.f24 2 N st = some p := by
  obtain ⟨⟨b0, b1, i⟩, hx, ⟨h1, h2, rfl, rfl, rfl⟩, rfl⟩ := LC.of_some hs
  obtain rfl := dl24n_ok hx
  exact ⟨_, rounds24a (lpL l) .empty [] [] h1 h2 0 1 (by omega) (by simp)⟩
theorem lpg_ok (ks : List ByteArray) (vs : List R33) : ∀ c, Try.f24.body = some c → LpOk X Eg an24 (lpg ks vs) (loops c 0) := by
  cases ks with
  | nil =>
    refine lpL_ok (X := X) (l := ([(0, lg0 [] vs), (2, lg2n)] : List (Nat × LC U))) (by kernel_rfl) fun b L hm st p hs => ?_
    cases hm with
    | head => exact lg0_ok hs
    | tail _ h =>
      cases h with
      | head => exact lg2n_ok hs
      | tail _ h => cases h
  | cons x xs =>
    refine lpL_ok (X := X) (l := ([(0, lg0 (x :: xs) vs), (2, lg2)] : List (Nat × LC U))) (by kernel_rfl) fun b L hm st p hs => ?_
    cases hm with
    | head => exact lg0_ok hs
    | tail _ h =>
      cases h with
      | head => exact lg2_ok hs
      | tail _ h => cases h
/-- What Get comes to, of a leaf's bytes. -/
def PGl (ks : List ByteArray) (vs : List R33) (s : ByteArray) (b : Bool) : Prop := b = true ∧ LfOk ks vs ∧ s = putB true ks vs []
noncomputable instance (ks : List ByteArray) (vs : List R33) (s : ByteArray) (b : Bool) : Decidable (PGl ks vs s b) := Classical.propDecidable _
def dGet (objs : List (TO U)) (args : List (TV U)) : Option (ByteArray × Bool) := match objs, args with
  | [], [a0, a1] =>
    match a0 with
    | .v (.string s) =>
      match a1 with
      | .v (.bool b) =>
        some (s, b)
      | _ => none
    | _ => none
  | _, _ => none
theorem dGet_ok {objs : List (TO U)} {args : List (TV U)} {s : ByteArray} {b : Bool} (h : dGet objs args = some (s, b)) : objs = [] ∧ args = [.v (.string s), .v (.bool b)] := by
  unfold dGet at h
  repeat' split at h
  all_goals first | (cases h; done) | (cases h; exact ⟨rfl, rfl⟩)
def gtL (ks : List ByteArray) (vs : List R33) : TV U := match ks with
  | [] => .tup [.agg [.v (.bool true), nlv, nlv, nlv], .v (.int .i64 0)]
  | x :: xs => .tup [.agg [.v (.bool true), .lst .str (x :: xs), .lst .t33 vs, nlv], .v (.int .i64 0)]
noncomputable def sGetL (ks : List ByteArray) (vs : List R33) : Spc U := .of dGet (fun (s, b) => PGl ks vs s b) (fun _ => []) fun _ => gtL ks vs
theorem fold_tl8 : ∀ (l : List ByteArray) (b : ByteArray), tl8 (l.foldl (· ++ ·) b) = tl8 b ++ allB l
  | [], b => (List.append_nil _).symm
  | x :: l, b => by
    rw [List.foldl_cons, fold_tl8 l, tl8_append, List.append_assoc]
    rfl
theorem put_leaf (ks : List ByteArray) (vs : List R33) (h : ks.length ≤ 237) : tl8 (putB true ks vs []) = bL ks.length ++ allB (List.zipWith entB ks vs) := by
  unfold putB
  rw [fold_tl8]
  show tl8 (numB (IntKind.u64.wrap (ks.length : Int))) ++ _ = _
  rw [numB_nat _ (by omega)]
  rfl
theorem sGetL_ok (ks : List ByteArray) (vs : List R33) : SpecOk Try.prog 24 (sGetL ks vs) := by
  refine fn_ok X_ok mixed Eg_ok an24 (lpg ks vs) Try.func24 (by kernel_rfl) (by kernel_rfl) (lpg_ok ks vs) fun objs args x hx hp => ?_
  obtain ⟨s, b⟩ := x
  obtain ⟨rfl, rfl⟩ := dGet_ok hx
  obtain ⟨rfl, h, rfl⟩ := hp
  have h' := h
  obtain ⟨g1, g2, g3, g4, g5⟩ := h'
  have hs := put_leaf ks vs g2
  obtain ⟨q, hq⟩ : ∃ q : ByteArray, tl8 q = allB (List.zipWith entB ks vs) := ⟨⟨(allB (List.zipWith entB ks vs)).toArray⟩, rfl⟩
  have hs2 : tl8 (putB true ks vs []) = bL ks.length ++ tl8 q := by rw [hs, hq]
  obtain ⟨e1, e2⟩ := nvN_of hs2
  have c1 : PNv ⟨putB true ks vs [], 0⟩ 237 := ⟨rfl, _, q, hs2, by omega, by omega⟩
  have c2 : PgL ks vs false true true ⟨nrN (putB true ks vs []), 0⟩ (IntKind.i64.wrap (nvN (putB true ks vs []))) 0 := ⟨h, rfl, rfl, rfl, rfl, by rw [e1, wr (by omega) (by omega)], rfl, by show tl8 (nrN _) = _; rw [e2, hq]⟩
  have c3 : PgS ks false true true 1 := ⟨g5, by omega, rfl, rfl, rfl⟩
  cases ks with
  | nil =>
    obtain rfl : vs = [] := List.eq_nil_of_length_eq_zero g1
    refine (g24n _).trans ?_
    rw [if_pos trivial, if_pos c1, if_pos c2, if_pos c3]
    rfl
  | cons x xs =>
    refine (g24c x xs vs _).trans ?_
    rw [if_pos trivial, if_pos c1, if_pos c2, if_pos ⟨c3, by simp⟩]
    rfl
end Go.Proofs.Ytmcflglkfgnbbaa.Nd

/- Bytes read: Get of an inner node that was put (it is known ahead). -/
namespace Go.Proofs.Ytmcflglkfgnbbaa.Nd
open Go Go.RowKit Go.Proofs.Ytmcflglkfgnbbaa.Eng
set_option linter.unusedVariables false
set_option linter.unusedSimpArgs false
set_option maxRecDepth 20000
def LiOk (ks : List ByteArray) (k0 : Int) (ki : List Int) : Prop := ki.length = ks.length ∧ ks.length ≤ 237 ∧ (∀ k ∈ ks, k.size ≤ 64) ∧ (0 ≤ k0 ∧ k0 ≤ 16383) ∧ (∀ n ∈ ki, 0 ≤ n ∧ n ≤ 16383) ∧ Srt ks
def PgI (ks : List ByteArray) (k0 : Int) (ki : List Int) (b0 b1 b : Bool) (r : Rd) (xs : List Int) (m i : Int) : Prop := LiOk ks k0 ki ∧ b0 = false ∧ b1 = false ∧ b = false ∧ r.E = 0 ∧ m = ks.length ∧ i = 0 ∧ xs = [k0] ∧ tl8 r.S = allB (List.zipWith lnkB ks ki)
noncomputable instance (ks : List ByteArray) (k0 : Int) (ki : List Int) (b0 b1 b : Bool) (r : Rd) (xs : List Int) (m i : Int) : Decidable (PgI ks k0 ki b0 b1 b r xs m i) := Classical.propDecidable _
def dl24i (s : TS U) : Option (Bool × Rd × Bool × List Int × Bool × Int × Int) := match told s 85 [1, 4, 6, 7, 28, 29] 0, s.objs with
  | some [a0, a1, a2, a3, a4, a5], [o0, o1, o2, o3] =>
    match o0 with
    | .cells [q0, q1, q2, q3] false =>
      match q0 with
      | .v (.bool b0) =>
        match q1 with
        | .v (.slice none 0 0) =>
          match q2 with
          | .v (.slice none 0 0) =>
            match q3 with
            | .v (.slice none 0 0) =>
              match o1 with
              | .cells [q4, q5] false =>
                match q4 with
                | .v (.string r_S) =>
                  match q5 with
                  | .v (.int .i64 r_E) =>
                    match o2 with
                    | .cells [q6, q7, q8, q9] false =>
                      match q6 with
                      | .v (.bool b1) =>
                        match q7 with
                        | .v (.slice none 0 0) =>
                          match q8 with
                          | .v (.slice none 0 0) =>
                            match q9 with
                            | .full 3 =>
                              match o3 with
                              | .row .i64 xs false =>
                                match a0 with
                                | .v (.bool b) =>
                                  match a1 with
                                  | .ref 0 0 0 =>
                                    match a2 with
                                    | .ref 1 0 0 =>
                                      match a3 with
                                      | .ref 2 0 0 =>
                                        match a4 with
                                        | .v (.int .i64 m) =>
                                          match a5 with
                                          | .v (.int .i64 i) =>
                                            some (b0, (⟨r_S, r_E⟩ : Rd), b1, xs, b, m, i)
                                          | _ => none
                                        | _ => none
                                      | _ => none
                                    | _ => none
                                  | _ => none
                                | _ => none
                              | _ => none
                            | _ => none
                          | _ => none
                        | _ => none
                      | _ => none
                    | _ => none
                  | _ => none
                | _ => none
              | _ => none
            | _ => none
          | _ => none
        | _ => none
      | _ => none
    | _ => none
  | _, _ => none
theorem dl24i_ok {s : TS U} {b0 : Bool} {r : Rd} {b1 : Bool} {xs : List Int} {b : Bool} {m : Int} {i : Int} (h : dl24i s = some (b0, r, b1, xs, b, m, i)) : s = mkS (U := U) 85 ([1, 4, 6, 7, 28, 29].zip ([.v (.bool b), .ref 0 0 0, .ref 1 0 0, .ref 2 0 0, .v (.int .i64 m), .v (.int .i64 i)] : List (TV U))) ([.cells [.v (.bool b0), .v (.slice none 0 0), .v (.slice none 0 0), .v (.slice none 0 0)] false, r.ob, .cells [.v (.bool b1), .v (.slice none 0 0), .v (.slice none 0 0), .full 3] false, .row .i64 xs false] : List (TO U)) 0 := by
  unfold dl24i at h
  split at h <;> try (cases h; done)
  rename_i ht ho
  have hs := told_ok ht
  rw [ho] at hs
  repeat' split at h
  all_goals first | (cases h; done) | (cases h; exact hs)
def dl24t (s : TS U) : Option (Bool × Bool × List ByteArray × List Int × Int) := match told s 85 [4, 7, 10] 0, s.objs with
  | some [a0, a1, a2], [o0, o1, o2, o3] =>
    match o0 with
    | .cells [q0, q1, q2, q3] false =>
      match q0 with
      | .v (.bool b0) =>
        match q1 with
        | .v (.slice none 0 0) =>
          match q2 with
          | .v (.slice none 0 0) =>
            match q3 with
            | .v (.slice none 0 0) =>
              match o1 with
              | .cells [q4, q5, q6, q7] false =>
                match q4 with
                | .v (.bool b1) =>
                  match q5 with
                  | .full 2 =>
                    match q6 with
                    | .v (.slice none 0 0) =>
                      match q7 with
                      | .full 3 =>
                        match o2 with
                        | .row .str ks false =>
                          match o3 with
                          | .row .i64 ki false =>
                            match a0 with
                            | .ref 0 0 0 =>
                              match a1 with
                              | .ref 1 0 0 =>
                                match a2 with
                                | .v (.int .i64 i) =>
                                  some (b0, b1, ks, ki, i)
                                | _ => none
                              | _ => none
                            | _ => none
                          | _ => none
                        | _ => none
                      | _ => none
                    | _ => none
                  | _ => none
                | _ => none
              | _ => none
            | _ => none
          | _ => none
        | _ => none
      | _ => none
    | _ => none
  | _, _ => none
theorem dl24t_ok {s : TS U} {b0 : Bool} {b1 : Bool} {ks : List ByteArray} {ki : List Int} {i : Int} (h : dl24t s = some (b0, b1, ks, ki, i)) : s = mkS (U := U) 85 ([4, 7, 10].zip ([.ref 0 0 0, .ref 1 0 0, .v (.int .i64 i)] : List (TV U))) ([.cells [.v (.bool b0), .v (.slice none 0 0), .v (.slice none 0 0), .v (.slice none 0 0)] false, .cells [.v (.bool b1), .full 2, .v (.slice none 0 0), .full 3] false, .row .str ks false, .row .i64 ki false] : List (TO U)) 0 := by
  unfold dl24t at h
  split at h <;> try (cases h; done)
  rename_i ht ho
  have hs := told_ok ht
  rw [ho] at hs
  repeat' split at h
  all_goals first | (cases h; done) | (cases h; exact hs)
def dl24m (s : TS U) : Option (Bool × Bool × List Int × Int) := match told s 85 [4, 7, 10] 0, s.objs with
  | some [a0, a1, a2], [o0, o1, o2] =>
    match o0 with
    | .cells [q0, q1, q2, q3] false =>
      match q0 with
      | .v (.bool b0) =>
        match q1 with
        | .v (.slice none 0 0) =>
          match q2 with
          | .v (.slice none 0 0) =>
            match q3 with
            | .v (.slice none 0 0) =>
              match o1 with
              | .cells [q4, q5, q6, q7] false =>
                match q4 with
                | .v (.bool b1) =>
                  match q5 with
                  | .v (.slice none 0 0) =>
                    match q6 with
                    | .v (.slice none 0 0) =>
                      match q7 with
                      | .full 2 =>
                        match o2 with
                        | .row .i64 ki false =>
                          match a0 with
                          | .ref 0 0 0 =>
                            match a1 with
                            | .ref 1 0 0 =>
                              match a2 with
                              | .v (.int .i64 i) =>
                                some (b0, b1, ki, i)
                              | _ => none
                            | _ => none
                          | _ => none
                        | _ => none
                      | _ => none
                    | _ => none
                  | _ => none
                | _ => none
              | _ => none
            | _ => none
          | _ => none
        | _ => none
      | _ => none
    | _ => none
  | _, _ => none
theorem dl24m_ok {s : TS U} {b0 : Bool} {b1 : Bool} {ki : List Int} {i : Int} (h : dl24m s = some (b0, b1, ki, i)) : s = mkS (U := U) 85 ([4, 7, 10].zip ([.ref 0 0 0, .ref 1 0 0, .v (.int .i64 i)] : List (TV U))) ([.cells [.v (.bool b0), .v (.slice none 0 0), .v (.slice none 0 0), .v (.slice none 0 0)] false, .cells [.v (.bool b1), .v (.slice none 0 0), .v (.slice none 0 0), .full 2] false, .row .i64 ki false] : List (TO U)) 0 := by
  unfold dl24m at h
  split at h <;> try (cases h; done)
  rename_i ht ho
  have hs := told_ok ht
  rw [ho] at hs
  repeat' split at h
  all_goals first | (cases h; done) | (cases h; exact hs)
noncomputable def li0 (ks : List ByteArray) (k0 : Int) (ki : List Int) : LC U := .of dl24i (fun (b0, r, b1, xs, b, m, i) => PgI ks k0 ki b0 b1 b r xs m i) (.exit 0) (fun _ => Z24 false ⟨#[]⟩ (iC ks) (iR ks (k0 :: ki)))
noncomputable def li2 : LC U := .of dl24t (fun (b0, b1, ks, ki, i) => PgT ks b0 b1 false i) (.exit 2) (fun (b0, b1, ks, ki, i) => mkS 85 [(4, .ref 0 0 0), (7, .ref 1 0 0)] [.cells [.v (.bool false), nlv, nlv, nlv] false, .cells [.v (.bool false), .full 2, nlv, .full 3] false, .row .str ks false, .row .i64 ki false] 0)
noncomputable def li2n : LC U := .of dl24m (fun (b0, b1, ki, i) => PgS [] b0 b1 false i) (.exit 2) (fun (b0, b1, ki, i) => Z24b false (iC2 []) (iR [] ki))
noncomputable def lpi (ks : List ByteArray) (k0 : Int) (ki : List Int) : Lp U := match ks with
  | [] => lpL [(0, li0 [] k0 ki), (2, li2n)]
  | x :: xs => lpL [(0, li0 (x :: xs) k0 ki), (2, li2)]
theorem li0_ok {l : List (Nat × LC U)} {ks : List ByteArray} {k0 : Int} {ki : List Int} {st : TS U} {p : Exit × TS U} (hs : (li0 ks k0 ki).F st (fun e s => some (e, s)) = some p) : ∃ N, fnLoop X Eg an24 (lpL l) Try.f24 0 N st = some p := by
  obtain ⟨⟨b0, r, b1, xs, b, m, i⟩, hx, ⟨h, rfl, rfl, rfl, h4, rfl, rfl, rfl, h7⟩, rfl⟩ := LC.of_some hs
  obtain rfl := dl24i_ok hx
  obtain ⟨g1, g2, g3, g4, g5, g6⟩ := h
  obtain ⟨t, e⟩ := r
  obtain rfl : e = 0 := h4
  exact ⟨_, rounds24i (lpL l) (ks.length : Int) (by omega) ks ki [] [k0] t 0 (Int.le_refl 0) (by omega) (Int.le_refl 0) (by simp) g1 g3 g5 h7⟩
theorem li2_ok {l : List (Nat × LC U)} {st : TS U} {p : Exit × TS U} (hs : li2.F st (fun e s => some (e, s)) = some p) : ∃ N, fnLoop X Eg an24 (lpL l) Try.f24 2 N st = some p := by
  obtain ⟨⟨b0, b1, ks, ki, i⟩, hx, ⟨⟨h1, h2, rfl, rfl, rfl⟩, hne⟩, rfl⟩ := LC.of_some hs
  obtain rfl := dl24t_ok hx
  cases ks with
  | nil => exact (hne rfl).elim
  | cons x xs => exact ⟨_, rounds24b (lpL l) .empty (x :: xs) ki h1 h2 (x :: xs).length 1 (by omega) (by omega)⟩
theorem li2n_ok {l : List (Nat × LC U)} {st : TS U} {p : Exit × TS U} (hs : li2n.F st (fun e s => some (e, s)) = some p) : ∃ N, fnLoop X Eg an24 (lpL l) Try.f24 2 N st = some p := by
  obtain ⟨⟨b0, b1, ki, i⟩, hx, ⟨h1, h2, rfl, rfl, rfl⟩, rfl⟩ := LC.of_some hs
  obtain rfl := dl24m_ok hx
  exact ⟨_, rounds24b (lpL l) .empty [] ki h1 h2 0 1 (by omega) (by simp)⟩
theorem lpi_ok (ks : List ByteArray) (k0 : Int) (ki : List Int) : ∀ c, Try.f24.body = some c → LpOk X Eg an24 (lpi ks k0 ki) (loops c 0) := by
  cases ks with
  | nil =>
    refine lpL_ok (X := X) (l := ([(0, li0 [] k0 ki), (2, li2n)] : List (Nat × LC U))) (by kernel_rfl) fun b L hm st p hs => ?_
    cases hm with
    | head => exact li0_ok hs
    | tail _ h =>
      cases h with
      | head => exact li2n_ok hs
      | tail _ h => cases h
  | cons x xs =>
    refine lpL_ok (X := X) (l := ([(0, li0 (x :: xs) k0 ki), (2, li2)] : List (Nat × LC U))) (by kernel_rfl) fun b L hm st p hs => ?_
    cases hm with
    | head => exact li0_ok hs
    | tail _ h =>
      cases h with
      | head => exact li2_ok hs
      | tail _ h => cases h
theorem i24c (x : ByteArray) (xs : List
  ByteArray) (k0 : Int) (ki : List
  Int) (s : ByteArray) : (evFn X Eg an24 (lpi (x :: xs) k0 ki) Try.f24 []
  [TV.v (Value.string s), TV.v (Value.bool false)] fun (o : List (TO X.U)) (v : TV X.U) => some (o, v)) =
  if True then
  if PNv { S := s, E := 0 } 237 then
    if PNv { S := nrN s, E := 0 } 16383 then
      if 1 * 8 ≤ 140737488355328 then
        if
            PgI (x :: xs) k0 ki false false false { S := nrN (nrN s), E := 0 } [IntKind.i64.wrap (nvN (nrN s))]
              (IntKind.i64.wrap (nvN s)) 0 then
          if PgT (x :: xs) false false false 1 then
            some
              ([],
                TV.tup
                  [TV.agg
                      [TV.v (Value.bool false), TV.lst C.str (x :: xs), TV.v (Value.slice none 0 0),
                        TV.lst C.i64 (k0 :: ki)],
                    TV.v (Value.int IntKind.i64 0)])
          else none
        else none
      else none
    else none
  else none
else none := by kernel_rfl
theorem i24n (k0 : Int) (ki : List
  Int) (s : ByteArray) : (evFn X Eg an24 (lpi [] k0 ki) Try.f24 [] [TV.v (Value.string s), TV.v (Value.bool false)]
  fun (o : List (TO X.U)) (v : TV X.U) => some (o, v)) =
  if True then
  if PNv { S := s, E := 0 } 237 then
    if PNv { S := nrN s, E := 0 } 16383 then
      if 1 * 8 ≤ 140737488355328 then
        if
            PgI [] k0 ki false false false { S := nrN (nrN s), E := 0 } [IntKind.i64.wrap (nvN (nrN s))]
              (IntKind.i64.wrap (nvN s)) 0 then
          if PgS [] false false false 1 then
            some
              ([],
                TV.tup
                  [TV.agg
                      [TV.v (Value.bool false), TV.v (Value.slice none 0 0), TV.v (Value.slice none 0 0),
                        TV.lst C.i64 (k0 :: ki)],
                    TV.v (Value.int IntKind.i64 0)])
          else none
        else none
      else none
    else none
  else none
else none := by kernel_rfl
def PGi (ks : List ByteArray) (k0 : Int) (ki : List Int) (s : ByteArray) (b : Bool) : Prop := b = false ∧ LiOk ks k0 ki ∧ s = putB false ks [] (k0 :: ki)
noncomputable instance (ks : List ByteArray) (k0 : Int) (ki : List Int) (s : ByteArray) (b : Bool) : Decidable (PGi ks k0 ki s b) := Classical.propDecidable _
def gtI (ks : List ByteArray) (ki : List Int) : TV U := match ks with
  | [] => .tup [.agg [.v (.bool false), nlv, nlv, .lst .i64 ki], .v (.int .i64 0)]
  | x :: xs => .tup [.agg [.v (.bool false), .lst .str (x :: xs), nlv, .lst .i64 ki], .v (.int .i64 0)]
noncomputable def sGetI (ks : List ByteArray) (k0 : Int) (ki : List Int) : Spc U := .of dGet (fun (s, b) => PGi ks k0 ki s b) (fun _ => []) fun _ => gtI ks (k0 :: ki)
theorem put_inner (ks : List ByteArray) (k0 : Int) (ki : List Int) (h : ks.length ≤ 237) (h0 : 0 ≤ k0) (h1 : k0 ≤ 16383) : tl8 (putB false ks [] (k0 :: ki)) = bL ks.length ++ (bL k0.toNat ++ allB (List.zipWith lnkB ks ki)) := by
  unfold putB
  rw [fold_tl8]
  show tl8 (numB (IntKind.u64.wrap (ks.length : Int)) ++ numB (IntKind.u64.wrap k0)) ++ _ = _
  rw [tl8_append, numB_nat _ (by omega), numB_bL, u64_id h0 (by omega), List.append_assoc]
  rfl
theorem sGetI_ok (ks : List ByteArray) (k0 : Int) (ki : List Int) : SpecOk Try.prog 24 (sGetI ks k0 ki) := by
  refine fn_ok X_ok mixed Eg_ok an24 (lpi ks k0 ki) Try.func24 (by kernel_rfl) (by kernel_rfl) (lpi_ok ks k0 ki) fun objs args x hx hp => ?_
  obtain ⟨s, b⟩ := x
  obtain ⟨rfl, rfl⟩ := dGet_ok hx
  obtain ⟨rfl, h, rfl⟩ := hp
  have h' := h
  obtain ⟨g1, g2, g3, ⟨g4, g4'⟩, g5, g6⟩ := h'
  have hs := put_inner ks k0 ki g2 g4 g4'
  obtain ⟨q, hq⟩ : ∃ q : ByteArray, tl8 q = allB (List.zipWith lnkB ks ki) := ⟨⟨(allB (List.zipWith lnkB ks ki)).toArray⟩, rfl⟩
  obtain ⟨q2, hq2⟩ : ∃ q2 : ByteArray, tl8 q2 = bL k0.toNat ++ tl8 q := ⟨⟨(bL k0.toNat ++ tl8 q).toArray⟩, rfl⟩
  have hs2 : tl8 (putB false ks [] (k0 :: ki)) = bL ks.length ++ tl8 q2 := by rw [hs, hq2, hq]
  obtain ⟨e1, e2⟩ := nvN_of hs2
  obtain ⟨e3, e4⟩ := nvN_of hq2
  have c1 : PNv ⟨putB false ks [] (k0 :: ki), 0⟩ 237 := ⟨rfl, _, q2, hs2, by omega, by omega⟩
  have c1' : PNv ⟨nrN (putB false ks [] (k0 :: ki)), 0⟩ 16383 := ⟨rfl, _, q, by show tl8 (nrN _) = _; rw [e2]; exact hq2, by omega, by omega⟩
  have c2 : PgI ks k0 ki false false false ⟨nrN (nrN (putB false ks [] (k0 :: ki))), 0⟩ [IntKind.i64.wrap (nvN (nrN (putB false ks [] (k0 :: ki))))] (IntKind.i64.wrap (nvN (putB false ks [] (k0 :: ki)))) 0 :=
    ⟨h, rfl, rfl, rfl, rfl, by rw [e1, wr (by omega) (by omega)], rfl, by rw [e2, e3, wr (by omega) (by omega), Int.toNat_of_nonneg g4], by show tl8 (nrN (nrN _)) = _; rw [e2, e4, hq]⟩
  have c3 : PgS ks false false false 1 := ⟨g6, by omega, rfl, rfl, rfl⟩
  cases ks with
  | nil =>
    refine (i24n k0 ki _).trans ?_
    rw [if_pos trivial, if_pos c1, if_pos c1', if_pos (by decide), if_pos c2, if_pos c3]
    rfl
  | cons x xs =>
    refine (i24c x xs k0 ki _).trans ?_
    rw [if_pos trivial, if_pos c1, if_pos c1', if_pos (by decide), if_pos c2, if_pos ⟨c3, by simp⟩]
    rfl
end Go.Proofs.Ytmcflglkfgnbbaa.Nd

