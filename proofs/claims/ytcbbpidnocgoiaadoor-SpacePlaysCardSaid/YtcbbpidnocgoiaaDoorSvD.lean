/- Places: the first free one. -/
import Derived.Test.YtcbbpidnocgoiaaDoorSvC
import Derived.Test.YtcbbpidnocgoiaaDoorSpK
import Derived.Test.YtcbbpidnocgoiaaDoorEvL
namespace Go.Proofs.YtcbbpidnocgoiaaDoor.Sv
open Go Go.RowKit Go.Proofs.YtcbbpidnocgoiaaDoor.Eng Go.Proofs.YtcbbpidnocgoiaaDoor.Pu
set_option linter.unusedVariables false
set_option linter.unusedSimpArgs false
set_option maxRecDepth 20000
def sTz : Spc U := .of du (fun x => 0 < x ∧ x < 18446744073709551616) (fun x => []) fun x => .v (.int .i64 (Pu.tz 64 x.toNat : Nat))
theorem sTz_ok : SpecOk Tryd.prog 17 sTz := by
  refine ⟨⟨_, Tryd.func17, by kernel_rfl, by kernel_rfl⟩, fun objs args => ?_, fun objs args objs' res h h1 h2 h3 => ?_⟩
  · intro R k r h'
    unfold sTz Spc.of at h' ⊢
    dsimp only at h' ⊢
    cases hd : du objs args with
    | none => rw [hd] at h'; cases h'
    | some x =>
      rw [hd] at h'
      dsimp only at h' ⊢
      split at h' <;> try (cases h'; done)
      rename_i hp
      exact ⟨_, _, h', fun k' => by rw [if_pos hp]⟩
  · unfold sTz Spc.of at h
    dsimp only at h
    split at h <;> try (cases h; done)
    rename_i x hd
    split at h <;> try (cases h; done)
    rename_i hp
    obtain ⟨rfl, rfl⟩ := du_ok hd
    cases h
    obtain ⟨y, rfl⟩ : ∃ y : Nat, x = (y : Int) := ⟨x.toNat, by omega⟩
    rw [Int.toNat_natCast]
    have hl := (tz_spec 64 y (by omega) (by rw [lt64]; omega)).1
    exact ⟨Sp.tz_all (by omega) (by omega) rfl hl, Nat.le_refl _, fun i hi => rfl, rfl, rfl⟩
noncomputable def E4 : FuncId → Option (Spc U)
  | 16 => some (specFn X (fun _ => none) an0 lp0 Tryd.f16)
  | 17 => some sTz
  | _ => none
theorem E4_ok : ∀ f S, E4 f = some S → SpecOk Tryd.prog f S := fun f S h => by
  unfold E4 at h
  split at h
  · cases h; exact specFn_ok X_ok mixed E0_ok an0 lp0 Tryd.func16 (by kernel_rfl) (by kernel_rfl) (lp0_ok (by kernel_rfl))
  · cases h; exact sTz_ok
  · cases h
def an12 : Ann := ⟨fun | 0 => 33 | _ => 0, fun | 0 => 16 | _ => 0, fun _ => [], false⟩
def wd (ws : List Int) (v : Int) : Nat := (18446744073709551615 - gw ws (v / 64).toNat) / 2 ^ (v % 64).toNat
def lf (n : Int) (ws : List Int) : Nat → Int → Option Int
  | 0, _ => none
  | N + 1, v => if v < n then (if wd ws v = 0 then lf n ws N (64 * (v / 64) + 64) else some (if v + (Pu.tz 64 (wd ws v) : Nat) < n then v + (Pu.tz 64 (wd ws v) : Nat) else -1)) else none
def g12_S0 (n : Int) (ws : List
  Int) (v0 : Int) : TS U := mkS 46 [(0, TV.ref 0 0 0), (5, TV.v (Value.int IntKind.i64 v0))]
  [TO.cells [TV.v (Value.int IntKind.i64 n), TV.full 1] false, TO.row C.u64 ws false] 2
theorem g12_e0 (lp : Lp
  U) (n : Int) (ws : List Int) (N : Nat) (v0 : Int) : fnLoop X E4 an12 lp Tryd.f12 0 N.succ (g12_S0 n ws v0) =
  bif decide (v0 < n) then
  if 0 ≤ IntKind.i64.wrap (v0.tdiv 64) ∧ IntKind.i64.wrap (v0.tdiv 64) < ↑ws.length then
    ws[(IntKind.i64.wrap (v0.tdiv 64)).toNat]?.bind fun (y : X.U.T C.u64) =>
      if v0.tmod 64 < 0 then none
      else
        bif
            !decide
                ((IntKind.u64.wrap
                        ↑(BitVec.ofInt IntKind.u64.bits IntKind.u64.max ^^^ BitVec.ofInt IntKind.u64.bits y).toNat).fdiv
                    (2 ^ min (v0.tmod 64).toNat IntKind.u64.bits) =
                  0) then
          if
              0 <
                  (IntKind.u64.wrap
                        ↑(BitVec.ofInt IntKind.u64.bits IntKind.u64.max ^^^ BitVec.ofInt IntKind.u64.bits y).toNat).fdiv
                    (2 ^ min (v0.tmod 64).toNat IntKind.u64.bits) ∧
                (IntKind.u64.wrap
                        ↑(BitVec.ofInt IntKind.u64.bits IntKind.u64.max ^^^ BitVec.ofInt IntKind.u64.bits y).toNat).fdiv
                    (2 ^ min (v0.tmod 64).toNat IntKind.u64.bits) <
                  18446744073709551616 then
            bif
                decide
                  (IntKind.i64.wrap
                      (v0 +
                        ↑(Pu.tz 64
                            ((IntKind.u64.wrap
                                    ↑(BitVec.ofInt IntKind.u64.bits IntKind.u64.max ^^^
                                          BitVec.ofInt IntKind.u64.bits y).toNat).fdiv
                                (2 ^ min (v0.tmod 64).toNat IntKind.u64.bits)).toNat)) <
                    n) then
              some
                (Exit.ret,
                  mkS 46
                    [(4,
                        TV.v
                          (Value.int IntKind.i64
                            (IntKind.i64.wrap
                              (v0 +
                                ↑(Pu.tz 64
                                    ((IntKind.u64.wrap
                                            ↑(BitVec.ofInt IntKind.u64.bits IntKind.u64.max ^^^
                                                  BitVec.ofInt IntKind.u64.bits y).toNat).fdiv
                                        (2 ^ min (v0.tmod 64).toNat IntKind.u64.bits)).toNat)))))]
                    [TO.cells [TV.v (Value.int IntKind.i64 n), TV.full 1] false, TO.row C.u64 ws false] 2)
            else
              some
                (Exit.ret,
                  mkS 46 [(4, TV.v (Value.int IntKind.i64 (-1)))]
                    [TO.cells [TV.v (Value.int IntKind.i64 n), TV.full 1] false, TO.row C.u64 ws false] 2)
          else none
        else
          fnLoop X E4 an12 lp Tryd.f12 0 N
            (g12_S0 n ws (IntKind.i64.wrap (IntKind.i64.wrap (IntKind.i64.wrap (v0.tdiv 64) + 1) * 64)))
  else none
else
  some
    (Exit.exit 0,
      mkS 46 [] [TO.cells [TV.v (Value.int IntKind.i64 n), TV.full 1] false, TO.row C.u64 ws false] 2) := by kernel_rfl
def st12 (n : Int) (ws : List Int) (j : Int) : TS U := mkS 46 [(4, .v (.int .i64 j))] (obs n ws) 2
def sx12 (n : Int) (ws : List Int) : TS U := mkS 46 [] (obs n ws) 2
def dl12 (s : TS U) : Option (Int × List Int × Int) := match told s 46 [0, 5] 2, s.objs with
  | some [a0, a1], [o0, o1] =>
    match o0 with
    | .cells [q0, q1] false =>
      match q0 with
      | .v (.int .i64 n) =>
        match q1 with
        | .full 1 =>
          match o1 with
          | .row .u64 ws false =>
            match a0 with
            | .ref 0 0 0 =>
              match a1 with
              | .v (.int .i64 v) =>
                some (n, ws, v)
              | _ => none
            | _ => none
          | _ => none
        | _ => none
      | _ => none
    | _ => none
  | _, _ => none
theorem dl12_ok {s : TS U} {n : Int} {ws : List Int} {v : Int} (h : dl12 s = some (n, ws, v)) : s = mkS (U := U) 46 ([0, 5].zip ([.ref 0 0 0, .v (.int .i64 v)] : List (TV U))) ([.cells [.v (.int .i64 n), .full 1] false, .row .u64 ws false] : List (TO U)) 2 := by
  unfold dl12 at h
  split at h <;> try (cases h; done)
  rename_i ht ho
  have hs := told_ok ht
  rw [ho] at hs
  repeat' split at h
  all_goals first | (cases h; done) | (cases h; exact hs)
def lc12 : LC U := .of2 dl12 (fun x => Pre x.1 x.2.1 ∧ 0 ≤ x.2.2) (fun x => (lf x.1 x.2.1 (x.2.1.length + 1) x.2.2).isSome) .ret (fun x => st12 x.1 x.2.1 ((lf x.1 x.2.1 (x.2.1.length + 1) x.2.2).getD 0)) (.exit 0) (fun x => sx12 x.1 x.2.1)
theorem wd_lt (ws : List Int) (v : Int) : wd ws v < 18446744073709551616 := by
  unfold wd
  have := Nat.div_le_self (18446744073709551615 - gw ws (v / 64).toNat) (2 ^ (v % 64).toNat)
  omega
theorem round12 (lp : Lp U) {n : Int} {ws : List Int} (hp : Pre n ws) : ∀ (N : Nat) (v : Int), 0 ≤ v → n ≤ 64 * (v / 64 + N) →
    fnLoop X E4 an12 lp Tryd.f12 0 (N + 1) (g12_S0 n ws v) = some (cond (lf n ws (N + 1) v).isSome (Exit.ret, st12 n ws ((lf n ws (N + 1) v).getD 0)) (.exit 0, sx12 n ws)) := by
  intro N
  induction N with
  | zero =>
    intro v h0 h1
    have hv : ¬ v < n := by omega
    have e : lf n ws 1 v = none := by unfold lf; rw [if_neg hv]
    rw [e, g12_e0]
    simp only [hv, decide_false, cond_false]
    rfl
  | succ N ih =>
    intro v h0 h1
    rw [g12_e0]
    by_cases hv : v < n
    · have hat := at_w hp h0 hv
      obtain ⟨p1, p2, p3⟩ := id hp
      have hg := gw_lt p3 (v / 64).toNat
      have hw := wd_lt ws v
      have htl := Pu.tz_le 64 (wd ws v)
      have eq1 : IntKind.i64.wrap (v.tdiv 64) = v / 64 := toNat_quo h0 (by omega)
      have hlen : v / 64 < (ws.length : Int) := by omega
      have es : ((18446744073709551615 - gw ws (v / 64).toNat : Nat) : Int).fdiv (2 ^ min (v % 64).toNat IntKind.u64.bits) = ((wd ws v : Nat) : Int) := shr_k _ _ (by omega) (by omega)
      simp only [hv, decide_true, cond_true, eq1, rem_w v h0, hat, Option.bind_some, not_k hg, es]
      rw [if_pos (by omega), if_neg (by omega)]
      unfold lf
      rw [if_pos hv]
      by_cases hz : wd ws v = 0
      · have e1 : IntKind.i64.wrap (v / 64 + 1) = v / 64 + 1 := wrap_i64 (by omega) (by omega)
        have e2 : IntKind.i64.wrap ((v / 64 + 1) * 64) = 64 * (v / 64) + 64 := by
          rw [wrap_i64 (by omega) (by omega)]
          omega
        simp only [hz, e1, e2, if_true]
        exact ih (64 * (v / 64) + 64) (by omega) (by omega)
      · have e3 : IntKind.i64.wrap (v + ((Pu.tz 64 (wd ws v) : Nat) : Int)) = v + ((Pu.tz 64 (wd ws v) : Nat) : Int) := wrap_i64 (by omega) (by omega)
        have e4 : ¬ ((wd ws v : Nat) : Int) = 0 := by omega
        simp only [hz, e4, decide_false, Bool.not_false, cond_true, if_false, Int.toNat_natCast, e3, Option.isSome_some, Option.getD_some]
        rw [if_pos (by omega)]
        by_cases hj : v + ((Pu.tz 64 (wd ws v) : Nat) : Int) < n
        · simp only [hj, decide_true, cond_true, if_true]
          rfl
        · simp only [hj, decide_false, cond_false, if_false]
          rfl
    · have e : lf n ws (N + 1 + 1) v = none := by unfold lf; rw [if_neg hv]
      rw [e]
      simp only [hv, decide_false, cond_false]
      rfl
theorem lp12_ok : ∀ c, Tryd.f12.body = some c → LpOk X E4 an12 (lpL [(0, lc12)]) (loops c 0) := lpL_ok (by kernel_rfl) fun b L hm s p hs => by
  cases hm with
  | tail _ h => cases h
  | head =>
    obtain ⟨⟨n, ws, v⟩, hx, ⟨hp, h0⟩, rfl⟩ := LC.of2_some hs
    obtain rfl := dl12_ok hx
    dsimp only at hp h0 ⊢
    exact ⟨ws.length + 1, round12 _ hp ws.length v h0 (by obtain ⟨p1, p2, p3⟩ := hp; omega)⟩
theorem e12 (n : Int) (i : Int) (ws : List
  Int) : (evFn X E4 an12 (lpL [(0, lc12)]) Tryd.f12
  [TO.cells [TV.v (Value.int IntKind.i64 n), TV.full 1] false, TO.row C.u64 ws false]
  [TV.ref 0 0 0, TV.v (Value.int IntKind.i64 i)] fun (o : List (TO X.U)) (v : TV X.U) => some (o, v)) =
  if Pre n ws ∧ 0 ≤ if i < 0 then 0 else i then
  bif (lf n ws (ws.length + 1) (if i < 0 then 0 else i)).isSome then
    some
      ([TO.cells [TV.v (Value.int IntKind.i64 n), TV.full 1] false, TO.row C.u64 ws false],
        TV.v (Value.int IntKind.i64 ((lf n ws (ws.length + 1) (if i < 0 then 0 else i)).getD 0)))
  else
    some
      ([TO.cells [TV.v (Value.int IntKind.i64 n), TV.full 1] false, TO.row C.u64 ws false],
        TV.v (Value.int IntKind.i64 (-1)))
else none := by kernel_rfl
def sFirst : Spc U := .of dsi (fun x => Pre x.1 x.2.1) (fun x => obs x.1 x.2.1) fun x => .v (.int .i64 ((lf x.1 x.2.1 (x.2.1.length + 1) (if x.2.2 < 0 then 0 else x.2.2)).getD (-1)))
theorem sFirst_ok : SpecOk Tryd.prog 12 sFirst := by
  refine fn_ok X_ok mixed E4_ok an12 (lpL [(0, lc12)]) Tryd.func12 (by kernel_rfl) (by kernel_rfl) lp12_ok fun objs args x hx hp => ?_
  obtain ⟨n, ws, i⟩ := x
  obtain ⟨rfl, rfl⟩ := dsi_ok hx
  dsimp only at hp ⊢
  rw [e12, if_pos ⟨hp, by split <;> omega⟩]
  cases lf n ws (ws.length + 1) (if i < 0 then 0 else i) <;> rfl
end Go.Proofs.YtcbbpidnocgoiaaDoor.Sv
