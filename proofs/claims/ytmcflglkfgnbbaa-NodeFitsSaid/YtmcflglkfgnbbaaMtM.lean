/- Texts of this claim, put together: part 13. -/
import Derived.Test.YtmcflglkfgnbbaaMtK
/- A key has what it was given, and nothing when it was taken away: the function. -/
namespace Go.Proofs.Ytmcflglkfgnbbaa.Nd
open Go Go.RowKit Go.Proofs.Ytmcflglkfgnbbaa.Eng
set_option linter.unusedVariables false
set_option linter.unusedSimpArgs false
set_option maxRecDepth 20000
noncomputable def Eh : FuncId → Option (Spc U)
  | 9 => some sLeaf
  | 10 => some sCopy
  | 11 => some sVal
  | 12 => some (sBS.wkA [.l .str])
  | 13 => some sSet
  | 14 => some sUn
  | 15 => some sAwake
  | 16 => some sSame
  | 17 => some sRef
  | _ => none
theorem Eh_ok : ∀ f S, Eh f = some S → SpecOk Try.prog f S := fun f S h => by
  unfold Eh at h
  split at h
  · cases h; exact sLeaf_ok
  · cases h; exact sCopy_ok
  · cases h; exact sVal_ok
  · cases h; exact sFind_ok.wkA _
  · cases h; exact sSet_ok
  · cases h; exact sUn_ok
  · cases h; exact sAwake15_ok
  · cases h; exact sSame_ok
  · cases h; exact sRef_ok
  · cases h
def an3 : Ann := ⟨fun | 0 => 4210848 | 1005 => 16352 | 1006 => 131040 | 1007 => 786400 | 1008 => 5316911983139663491615228241121397152 | 1010 => 3164576 | _ => 0, fun | 0 => 16 | _ => 0, fun | 3 => [1006] | _ => [], false⟩
def S3 (b : Bool) (a c : TV U) (key : ByteArray) (b2 : Bool) (oks : List ByteArray) (ovs : List R33) (i : Int) : TS U := mkS 193 [(5, .ref 0 0 0), (7, .v (.string key)), (14, .ref 1 0 0), (22, .v (.int .i64 i))] [.cells [.v (.bool b), a, c, nlv] false, .cells [.v (.bool b2), .lst .str oks, .lst .t33 ovs, nlv] false] 0
theorem r3c (lp : Lp
  U) (N : Nat) (b : Bool) (ks : List
  ByteArray) (vs : List
  R33) (key : ByteArray) (b2 : Bool) (oks : List
  ByteArray) (ovs : List
  R33) (i : Int) : (fnLoop X Eh an3 lp Try.f3 0 N.succ (S3 b (TV.lst C.str ks) (TV.lst C.t33 vs) key b2 oks ovs i)) =
  bif decide (i < (↑oks.length : Int)) then
  (getI oks i).bind fun (z : X.U.T C.str) =>
    if PreK ks then
      (getI oks i).bind fun (z_1 : X.U.T C.str) =>
        bif ByteArray.toList z_1 == key.toList then some (Exit.ret, mkS 193 [(4, TV.v (Value.bool false))] [] 0)
        else
          bif !isK ks z then some (Exit.ret, mkS 193 [(4, TV.v (Value.bool false))] [] 0)
          else
            (getI vs (↑(rk ks z) : Int)).bind fun (z : X.U.T C.t33) =>
              (getI ovs i).bind fun (z_2 : X.U.T C.t33) =>
                bif
                    !(z.Data.toList == z_2.Data.toList &&
                        (decide (z.Page = z_2.Page) && (decide (z.Len = z_2.Len) && true))) then
                  some (Exit.ret, mkS 193 [(4, TV.v (Value.bool false))] [] 0)
                else
                  fnLoop X Eh an3 lp Try.f3 0 N
                    (mkS 193
                      [(5, TV.ref 0 0 0), (7, TV.v (Value.string key)), (14, TV.ref 1 0 0),
                        (22, TV.v (Value.int IntKind.i64 (IntKind.i64.wrap (i + 1))))]
                      [TO.cells [TV.v (Value.bool b), TV.lst C.str ks, TV.lst C.t33 vs, TV.v (Value.slice none 0 0)]
                          false,
                        TO.cells [TV.v (Value.bool b2), TV.lst C.str oks, TV.lst C.t33 ovs, TV.v (Value.slice none 0 0)]
                          false]
                      0)
    else none
else some (Exit.exit 0, mkS 193 [] [] 0) := by kernel_rfl
theorem r3n (lp : Lp
  U) (N : Nat) (b : Bool) (key : ByteArray) (b2 : Bool) (oks : List
  ByteArray) (ovs : List R33) (i : Int) : (fnLoop X Eh an3 lp Try.f3 0 N.succ (S3 b nlv nlv key b2 oks ovs i)) =
  bif decide (i < (↑oks.length : Int)) then
  (getI oks i).bind fun (z : X.U.T C.str) =>
    if PreK [] then
      (getI oks i).bind fun (z_1 : X.U.T C.str) =>
        bif ByteArray.toList z_1 == key.toList then some (Exit.ret, mkS 193 [(4, TV.v (Value.bool false))] [] 0)
        else bif !isK [] z then some (Exit.ret, mkS 193 [(4, TV.v (Value.bool false))] [] 0) else none
    else none
else some (Exit.exit 0, mkS 193 [] [] 0) := by kernel_rfl
/-- What is left of the keys stands in a node, too, each with what it had; none of them is one key. -/
def Q3 (ks : List ByteArray) (vs : List R33) (key : ByteArray) (oks : List ByteArray) (ovs : List R33) (i : Int) : Prop := 0 ≤ i ∧ oks.length = ovs.length ∧ oks.length ≤ 1000000000 ∧ PreK ks ∧
  ∀ (j : Nat) (x : ByteArray) (v : R33), oks[j]? = some x → ovs[j]? = some v → (x.toList == key.toList) = false ∧ isK ks x = true ∧ vs[rk ks x]? = some v
theorem rounds3 (lp : Lp U) (b : Bool) (ks : List ByteArray) (vs : List R33) (key : ByteArray) (b2 : Bool) (oks : List ByteArray) (ovs : List R33) : ∀ (N : Nat) (i : Int), (oks.length : Int) ≤ i + N → Q3 ks vs key oks ovs i →
    fnLoop X Eh an3 lp Try.f3 0 (N + 1) (S3 b (.lst .str ks) (.lst .t33 vs) key b2 oks ovs i) = some (.exit 0, mkS 193 [] [] 0) := by
  intro N
  induction N with
  | zero => intro i hn hq; rw [r3c, decide_eq_false (by omega)]; rfl
  | succ N ih =>
    intro i hn hq
    have hq' := hq
    obtain ⟨h0, h1, h2, h3, h4⟩ := hq'
    by_cases hi : i < (oks.length : Int)
    · obtain ⟨z, hz, hz2⟩ := getE (l := oks) h0 hi
      obtain ⟨v, hv, hv2⟩ := getE (l := ovs) h0 (by omega)
      obtain ⟨k1, k2, k3⟩ := h4 _ z v hz2 hv2
      have hw : IntKind.i64.wrap (i + 1) = i + 1 := wr (by omega) (by omega)
      have hg : getI vs (rk ks z : Int) = some v := by
        unfold getI
        rw [if_pos (by omega), Int.toNat_natCast, k3]
      rw [r3c, decide_eq_true hi, hz, hv]
      simp only [cond_true, Option.bind_some, if_pos h3, k1, cond_false, k2, Bool.not_true, hg, beq_self_eq_true, decide_true, Bool.and_true, hw]
      exact ih (i + 1) (by omega) ⟨by omega, h1, h2, h3, h4⟩
    · rw [r3c, decide_eq_false hi]; rfl
def dl3c (s : TS U) : Option (Bool × List ByteArray × List R33 × Bool × List ByteArray × List R33 × ByteArray × Int) := match told s 193 [5, 7, 14, 22] 0, s.objs with
  | some [a0, a1, a2, a3], [o0, o1] =>
    match o0 with
    | .cells [q0, q1, q2, q3] false =>
      match q0 with
      | .v (.bool b) =>
        match q1 with
        | .lst .str ks =>
          match q2 with
          | .lst .t33 vs =>
            match q3 with
            | .v (.slice none 0 0) =>
              match o1 with
              | .cells [q4, q5, q6, q7] false =>
                match q4 with
                | .v (.bool b2) =>
                  match q5 with
                  | .lst .str oks =>
                    match q6 with
                    | .lst .t33 ovs =>
                      match q7 with
                      | .v (.slice none 0 0) =>
                        match a0 with
                        | .ref 0 0 0 =>
                          match a1 with
                          | .v (.string key) =>
                            match a2 with
                            | .ref 1 0 0 =>
                              match a3 with
                              | .v (.int .i64 i) =>
                                some (b, ks, vs, b2, oks, ovs, key, i)
                              | _ => none
                            | _ => none
                          | _ => none
                        | _ => none
                      | _ => none
                    | _ => none
                  | _ => none
                | _ => none
              | _ => none
            | _ => none
          | _ => none
        | _ => none
      | _ => none
    | _ => none
  | _, _ => none
theorem dl3c_ok {s : TS U} {b : Bool} {ks : List ByteArray} {vs : List R33} {b2 : Bool} {oks : List ByteArray} {ovs : List R33} {key : ByteArray} {i : Int} (h : dl3c s = some (b, ks, vs, b2, oks, ovs, key, i)) : s = mkS (U := U) 193 ([5, 7, 14, 22].zip ([.ref 0 0 0, .v (.string key), .ref 1 0 0, .v (.int .i64 i)] : List (TV U))) ([.cells [.v (.bool b), .lst .str ks, .lst .t33 vs, .v (.slice none 0 0)] false, .cells [.v (.bool b2), .lst .str oks, .lst .t33 ovs, .v (.slice none 0 0)] false] : List (TO U)) 0 := by
  unfold dl3c at h
  split at h <;> try (cases h; done)
  rename_i ht ho
  have hs := told_ok ht
  rw [ho] at hs
  repeat' split at h
  all_goals first | (cases h; done) | (cases h; exact hs)
def dl3n (s : TS U) : Option (Bool × Bool × List ByteArray × List R33 × ByteArray × Int) := match told s 193 [5, 7, 14, 22] 0, s.objs with
  | some [a0, a1, a2, a3], [o0, o1] =>
    match o0 with
    | .cells [q0, q1, q2, q3] false =>
      match q0 with
      | .v (.bool b) =>
        match q1 with
        | .v (.slice none 0 0) =>
          match q2 with
          | .v (.slice none 0 0) =>
            match q3 with
            | .v (.slice none 0 0) =>
              match o1 with
              | .cells [q4, q5, q6, q7] false =>
                match q4 with
                | .v (.bool b2) =>
                  match q5 with
                  | .lst .str oks =>
                    match q6 with
                    | .lst .t33 ovs =>
                      match q7 with
                      | .v (.slice none 0 0) =>
                        match a0 with
                        | .ref 0 0 0 =>
                          match a1 with
                          | .v (.string key) =>
                            match a2 with
                            | .ref 1 0 0 =>
                              match a3 with
                              | .v (.int .i64 i) =>
                                some (b, b2, oks, ovs, key, i)
                              | _ => none
                            | _ => none
                          | _ => none
                        | _ => none
                      | _ => none
                    | _ => none
                  | _ => none
                | _ => none
              | _ => none
            | _ => none
          | _ => none
        | _ => none
      | _ => none
    | _ => none
  | _, _ => none
theorem dl3n_ok {s : TS U} {b : Bool} {b2 : Bool} {oks : List ByteArray} {ovs : List R33} {key : ByteArray} {i : Int} (h : dl3n s = some (b, b2, oks, ovs, key, i)) : s = mkS (U := U) 193 ([5, 7, 14, 22].zip ([.ref 0 0 0, .v (.string key), .ref 1 0 0, .v (.int .i64 i)] : List (TV U))) ([.cells [.v (.bool b), .v (.slice none 0 0), .v (.slice none 0 0), .v (.slice none 0 0)] false, .cells [.v (.bool b2), .lst .str oks, .lst .t33 ovs, .v (.slice none 0 0)] false] : List (TO U)) 0 := by
  unfold dl3n at h
  split at h <;> try (cases h; done)
  rename_i ht ho
  have hs := told_ok ht
  rw [ho] at hs
  repeat' split at h
  all_goals first | (cases h; done) | (cases h; exact hs)
noncomputable instance (ks : List ByteArray) (vs : List R33) (key : ByteArray) (oks : List ByteArray) (ovs : List R33) (i : Int) : Decidable (Q3 ks vs key oks ovs i) := Classical.propDecidable _
def dl3 (s : TS U) : Option (Bool × List ByteArray × List R33 × Bool × List ByteArray × List R33 × ByteArray × Int) := orD dl3c (fun s => (dl3n s).map fun (b, b2, oks, ovs, key, i) => (b, [], [], b2, oks, ovs, key, i)) s
noncomputable def lc3 : LC U := .of dl3 (fun (b, ks, vs, b2, oks, ovs, key, i) => Q3 ks vs key oks ovs i) (.exit 0) fun _ => mkS 193 [] [] 0
noncomputable def lp3 : Lp U := lpL [(0, lc3)]
theorem lp3_ok : ∀ c, Try.f3.body = some c → LpOk X Eh an3 lp3 (loops c 0) := lpL_ok (by kernel_rfl) fun b L hm st p hs => by
  cases hm with
  | head =>
    obtain ⟨⟨b, ks, vs, b2, oks, ovs, key, i⟩, hx, hp, rfl⟩ := LC.of_some hs
    dsimp only at hp
    rcases orD_some hx with hx | hx
    · obtain rfl := dl3c_ok hx
      exact ⟨_, rounds3 _ b ks vs key b2 oks ovs oks.length i (by have := hp.1; omega) hp⟩
    · obtain ⟨⟨b', b2', oks', ovs', key', i'⟩, hx, he⟩ := Option.map_eq_some_iff.1 hx
      cases he
      obtain rfl := dl3n_ok hx
      obtain ⟨h0, h1, h2, h3, h4⟩ := hp
      refine ⟨1, ?_⟩
      have hn : ¬ i < (oks.length : Int) := fun hi => by
        obtain ⟨z, _, hz2⟩ := getE (l := oks) h0 hi
        obtain ⟨v, _, hv2⟩ := getE (l := ovs) h0 (by omega)
        have := (h4 _ z v hz2 hv2).2.1
        cases this
      refine (r3n _ 0 b key b2 oks ovs i).trans ?_
      rw [decide_eq_false hn]
      rfl
  | tail _ hm => cases hm
noncomputable def D0 : Code := match Try.f3.body with
  | some c => c
  | none => .skip
noncomputable def D6 : Code := sR (sR (sR (sR (sR (sR D0)))))
noncomputable def D8 : Code := sR (sR D6)
noncomputable def DA (c : Code) : Code := .seq (sL D0) (.seq (sL (sR D0)) (.seq (sL (sR (sR D0))) (.seq (sL (sR (sR (sR D0)))) (.seq (sL (sR (sR (sR (sR D0))))) (.seq (sL (sR (sR (sR (sR (sR D0)))))) c)))))
theorem hD0 : D0 = DA (.seq (sL D6) (.seq (sL (sR D6)) D8)) := by kernel_rfl
/-- The rows of a node that has none, or some. -/
def nsK (e : Bool) (ks : List ByteArray) : TV U := cond e nlv (.lst .str ks)
def nsV (e : Bool) (vs : List R33) : TV U := cond e nlv (.lst .t33 vs)
def nO (a c : TV U) : TO U := .cells [.v (.bool true), a, c, nlv] false
def vO (v : R33) : TO U := .cells [.v (.string v.Data), .v (.int .i64 v.Page), .v (.int .i64 v.Len)] false
/-- What is told so far. -/
structure G3 where
  e : Bool
  ks : List ByteArray
  vs : List R33
  key : ByteArray
  v : R33
  mK : List ByteArray
  mV : List R33
def G3.sl (g : G3) : List (Nat × TV U) := [(5, .ref 0 0 0), (6, .ref 1 0 0), (7, .v (.string g.key)), (8, .ref 2 0 0), (9, .v (.int .i64 (rk g.ks g.key))), (10, .v (.bool (isK g.ks g.key))), (11, .ref 3 0 0), (12, .ref 4 0 0), (13, .v (.bool (isK g.ks g.key)))]
def G3.ob (g : G3) : List (TO U) := [nO (nsK g.e g.ks) (nsV g.e g.vs), nO (nsK g.e g.ks) (nsV g.e g.vs), vO g.v, nO (.lst .str g.mK) (.lst .t33 g.mV), vO (sOld g.ks g.vs g.key)]
def T5 (g : G3) : TS U := mkS 193 g.sl g.ob 0
def T6 (g : G3) (ok : List ByteArray) (ov : List R33) (gone : R33) (took : Bool) : TS U := mkS 193 (g.sl ++ [(14, .ref 5 0 0), (15, .ref 6 0 0), (16, .v (.bool took))]) (g.ob ++ [nO (.lst .str ok) (.lst .t33 ov), vO gone]) 0
def T7 (g : G3) (ok : List ByteArray) (ov : List R33) (gone : R33) (took : Bool) (pk : List ByteArray) (pv : List R33) (no : Bool) : TS U := mkS 193 (g.sl ++ [(14, .ref 5 0 0), (15, .ref 6 0 0), (16, .v (.bool took)), (17, .ref 7 0 0), (19, .v (.bool no))]) (g.ob ++ [nO (.lst .str ok) (.lst .t33 ov), vO gone, nO (.lst .str pk) (.lst .t33 pv)]) 0
def mkG (e : Bool) (ks : List ByteArray) (vs : List R33) (key : ByteArray) (v : R33) : G3 := ⟨e, ks, vs, key, v, cS (sK ks key), cV (sV ks vs key v)⟩
section
variable (lp : Lp U) (c : Code) (R : Type) (K : Exit → TS U → Option R)
noncomputable def A3 (e : Bool) (ks : List ByteArray) (vs : List R33) (z : R24) : Option R := if PreNd ⟨true, ks, vs, []⟩ then (cutB z.S none (some (if 64 < (↑z.S.size : Int) then 64 else (↑z.S.size : Int)))).bind fun key => if True then if PreK ks then if PreSet ks vs then evC X Eh an3 lp c 0 (T5 (mkG e ks vs key (valP z))) K else none else none else none else none
theorem p5 (l : List R24) (z : R24) : evC X Eh an3 lp (DA c) 0 (mkS 193 [(0, .lst .t24 l), (1, z.kV)] [] 0) K = if True then cond (lfP l).1.isEmpty (A3 lp c R K true [] [] z) (A3 lp c R K false (cS (lfP l).1) (cV (lfP l).2) z) else none := by kernel_rfl
theorem p6 (g : G3) : evC X Eh an3 lp (sL D6) 0 (T5 g) K = if PreSet g.mK g.mV then cond (isK g.mK g.key) (K .normal (T6 g (uK g.mK g.mK g.key) (uK g.mK g.mV g.key) (atV g.mK g.mV g.key) true)) (K .normal (T6 g g.mK g.mV noV false)) else none := by
  obtain ⟨e, ks, vs, key, v, mk, mv⟩ := g
  cases e <;> kernel_rfl
theorem p7 (g : G3) (ok : List ByteArray) (ov : List R33) (gone : R33) (took : Bool) : evC X Eh an3 lp (sL (sR D6)) 0 (T6 g ok ov gone took) K = if PreSet ok ov then cond (isK ok g.key) (K .normal (T7 g ok ov gone took (uK ok ok g.key) (uK ok ov g.key) true)) (K .normal (T7 g ok ov gone took ok ov false)) else none := by
  obtain ⟨e, ks, vs, key, v, mk, mv⟩ := g
  cases e <;> kernel_rfl
end
noncomputable def C8 : Code := sL D8
noncomputable def D10 : Code := sR D8
theorem hD8 : D8 = .seq C8 D10 := by kernel_rfl
def T8 (g : G3) (ok : List ByteArray) (ov : List R33) : TS U := mkS 193 [(5, .ref 0 0 0), (7, .v (.string g.key)), (8, .ref 1 0 0), (11, .ref 2 0 0), (14, .ref 3 0 0), (122, .v (.bool false))] [nO (nsK g.e g.ks) (nsV g.e g.vs), vO g.v, nO (.lst .str g.mK) (.lst .t33 g.mV), nO (.lst .str ok) (.lst .t33 ov)] 0
def K1 (ex : Exit) (s : TS U) : Option (TS U) := match ex with
  | .normal => some s
  | _ => none
def vE (a b : R33) : Bool := (a.Data.toList == b.Data.toList && (decide (a.Page = b.Page) && (decide (a.Len = b.Len) && true)))
noncomputable def R8 (g : G3) (ok : List ByteArray) (ov : List R33) (gone : R33) (took : Bool) (pk : List ByteArray) (pv : List R33) (no : Bool) : Option (TS U) :=
  bif !took then none else bif !vE gone g.v then none else bif no then none else if PreRf pv.length then if PreRf ov.length then if P16 (refP true pk pv []) (refP true ok ov []) 0 then
    if PreRf g.vs.length then if PreRf g.vs.length then if P16 (refP true g.ks g.vs []) (refP true g.ks g.vs []) 0 then some (T8 g ok ov) else none else none else none else none else none else none
noncomputable def Q8 (g : G3) (r : Option (TS U)) : Option (TS U) := bif !isK g.ks g.key then (bif !decide ((sOld g.ks g.vs g.key).Page = -1) then none else r) else r
theorem p8c (lp : Lp U) (ks : List ByteArray) (vs : List R33) (key : ByteArray) (v : R33) (mk : List ByteArray) (mv : List R33) (ok : List ByteArray) (ov : List R33) (gone : R33) (took : Bool) (pk : List ByteArray) (pv : List R33) (no : Bool) :
    evC X Eh an3 lp C8 0 (T7 ⟨false, ks, vs, key, v, mk, mv⟩ ok ov gone took pk pv no) K1 = bif !isK ks key == isK ks key then none else bif isK ks key then
      (getI vs (↑(rk ks key) : Int)).bind fun z => bif !vE (sOld ks vs key) z then none else Q8 ⟨false, ks, vs, key, v, mk, mv⟩ (R8 ⟨false, ks, vs, key, v, mk, mv⟩ ok ov gone took pk pv no)
      else Q8 ⟨false, ks, vs, key, v, mk, mv⟩ (R8 ⟨false, ks, vs, key, v, mk, mv⟩ ok ov gone took pk pv no) := by kernel_rfl
theorem p8n (lp : Lp U) (key : ByteArray) (v : R33) (mk : List ByteArray) (mv : List R33) (ok : List ByteArray) (ov : List R33) (gone : R33) (took : Bool) (pk : List ByteArray) (pv : List R33) (no : Bool) :
    evC X Eh an3 lp C8 0 (T7 ⟨true, [], [], key, v, mk, mv⟩ ok ov gone took pk pv no) K1 = bif !isK [] key == isK [] key then none else bif isK [] key then none else Q8 ⟨true, [], [], key, v, mk, mv⟩ (R8 ⟨true, [], [], key, v, mk, mv⟩ ok ov gone took pk pv no) := by kernel_rfl
noncomputable def K3 : Exit → TS U → Option (List (TO U) × TV U) := fun ex s => match ex with
  | .ret => evFin X an3 Try.f3.results.toList s fun o v => some (o, v)
  | .normal => evFin X an3 Try.f3.results.toList s fun o v => some (o, v)
  | _ => none
noncomputable def R10 (g : G3) (ok : List ByteArray) (ov : List R33) : Option (List (TO U) × TV U) := if PreK g.mK then bif !isK g.mK g.key then some ([], .v (.bool false)) else (getI g.mV (↑(rk g.mK g.key) : Int)).bind fun z => bif !vE z g.v then some ([], .v (.bool false)) else
  bif !decide ((ok.length : Int) = IntKind.i64.wrap ((g.mK.length : Int) - 1)) then some ([], .v (.bool false)) else if Q3 g.ks g.vs g.key ok ov 0 then some ([], .v (.bool true)) else none else none
theorem p10c (ks : List ByteArray) (vs : List R33) (key : ByteArray) (v : R33) (mk : List ByteArray) (mv : List R33) (ok : List ByteArray) (ov : List R33) : evC X Eh an3 lp3 D10 0 (T8 ⟨false, ks, vs, key, v, mk, mv⟩ ok ov) K3 = R10 ⟨false, ks, vs, key, v, mk, mv⟩ ok ov := by kernel_rfl
theorem p10n (key : ByteArray) (v : R33) (mk : List ByteArray) (mv : List R33) (ok : List ByteArray) (ov : List R33) : evC X Eh an3 lp3 D10 0 (T8 ⟨true, [], [], key, v, mk, mv⟩ ok ov) K3 = R10 ⟨true, [], [], key, v, mk, mv⟩ ok ov := by kernel_rfl
theorem w3 (lp : Lp U) (l : List R24) (z : R24) : evFn X Eh an3 lp Try.f3 [] [.lst .t24 l, z.kV] (fun o v => some (o, v)) = evC X Eh an3 lp D0 0 (mkS 193 [(0, .lst .t24 l), (1, z.kV)] [] 0) K3 := by kernel_rfl
end Go.Proofs.Ytmcflglkfgnbbaa.Nd

