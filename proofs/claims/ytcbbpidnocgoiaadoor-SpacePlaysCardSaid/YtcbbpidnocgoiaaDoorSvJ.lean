/- Places: the law told. -/
import Derived.Test.YtcbbpidnocgoiaaDoorSvI
namespace Go.Proofs.YtcbbpidnocgoiaaDoor.Sv
open Go Go.RowKit Go.Proofs.YtcbbpidnocgoiaaDoor.Eng Go.Proofs.YtcbbpidnocgoiaaDoor.Pu
set_option linter.unusedVariables false
set_option linter.unusedSimpArgs false
set_option maxRecDepth 20000
theorem lp3_ok : ∀ c, Tryd.f3.body = some c → LpOk X E3 an3 (lpL [(0, lc0), (3, lc3)]) (loops c 0) := lpL_ok (by kernel_rfl) fun b L hm s p hs => by
  cases hm with
  | head =>
    obtain ⟨⟨n, ws, us, acts, m, i⟩, hx, hp, rfl⟩ := LC.of_some hs
    obtain rfl := dl0_ok hx
    dsimp only at hp ⊢
    obtain ⟨h1, rfl, h2⟩ := hp
    exact ⟨201, rounds _ 200 i h1 h2 (by omega)⟩
  | tail _ hm =>
    cases hm with
    | head =>
      obtain ⟨⟨n, ws, us, m, c, i⟩, hx, hp, rfl⟩ := LC.of_some hs
      obtain rfl := dl3_ok hx
      dsimp only at hp ⊢
      obtain ⟨h1, h2, h3, h4, h5, h6⟩ := hp
      exact ⟨(m - i).toNat + 1, counts _ h1 h2 _ c i h3 (by omega) h5 h6⟩
    | tail _ hm => cases hm
def masked (n : Int) : Int := IntKind.i64.wrap (BitVec.ofInt IntKind.i64.bits n &&& BitVec.ofInt IntKind.i64.bits 255).toNat
theorem masked_ok (n : Int) : 0 ≤ masked n ∧ masked n ≤ 255 := by
  have h : (BitVec.ofInt IntKind.i64.bits n &&& BitVec.ofInt IntKind.i64.bits 255).toNat ≤ 255 := by
    rw [BitVec.toNat_and]
    exact Nat.and_le_right
  unfold masked
  rw [wrap_i64 (by omega) (by omega)]
  omega
def nofs (m : Int) : List Bool := List.replicate m.toNat false
theorem e3 (n : Int) (acts : List R29) : evFn X E3 an3 (lpL [(0, lc0), (3, lc3)]) Tryd.f3 [] [.v (.int .i64 n), .lst .t29 acts] (fun o v => some (o, v)) =
    if 0 ≤ masked n ∧ masked n ≤ 1000000 then (if 0 ≤ masked n ∧ masked n = masked n ∧ masked n ≤ 9223372036854775807 ∧ ((1 : Nat) : Int) * masked n ≤ 281474976710656 then
      cond (!decide (masked n = masked n)) (some ([], .v (.bool false)))
        (if Pre0 (masked n) (masked n) 0 (zeros (masked n)) (nofs (masked n)) then
          (if Pre3 (masked n) 0 0 (runA (masked n) acts 201 0 (zeros (masked n)) (nofs (masked n))).2 then
            (if Pre (masked n) (runA (masked n) acts 201 0 (zeros (masked n)) (nofs (masked n))).1 ∧ 0 ≤ masked n ∧ (runA (masked n) acts 201 0 (zeros (masked n)) (nofs (masked n))).1.length ≤ 100000 then
              some ([], .v (.bool (decide (masked n - (tot (runA (masked n) acts 201 0 (zeros (masked n)) (nofs (masked n))).1 : Nat) = 0 + (cnt ((runA (masked n) acts 201 0 (zeros (masked n)) (nofs (masked n))).2.drop (Int.toNat 0)) : Nat)))))
            else none) else none) else none) else none) else none := by kernel_rfl
theorem tot_zeros (k : Nat) : tot (List.replicate k 0) = 0 := by
  induction k with
  | zero => rfl
  | succ k ih =>
    unfold tot at ih ⊢
    rw [List.replicate_succ, List.map_cons, List.sum_cons, ih]
    decide
theorem cnt_nofs (k : Nat) : cnt (List.replicate k false) = k := by
  induction k with
  | zero => rfl
  | succ k ih =>
    rw [List.replicate_succ, cnt_cons, ih]
    simp only [cond_false]
    omega
theorem gw_zeros (k q : Nat) : gw (List.replicate k 0) q = 0 := by
  unfold gw
  rw [List.getD_eq_getElem?_getD, List.getElem?_replicate]
  split <;> rfl
theorem inv0 {m : Int} (h0 : 0 ≤ m) (h1 : m ≤ 255) : Inv m (zeros m) (nofs m) := by
  have hz : (zeros m).length = ((m + 63) / 64).toNat := by unfold zeros; rw [List.length_replicate]
  refine ⟨h0, h1, ⟨by omega, by omega, ?_⟩, by omega, ?_, fun j hj hj1 => ?_, ?_⟩
  · unfold okW zeros
    rw [List.all_eq_true]
    intro x hx
    obtain rfl := List.eq_of_mem_replicate hx
    decide
  · unfold nofs
    rw [List.length_replicate]
    omega
  · unfold nofs zeros bitI
    rw [List.getElem?_replicate, if_pos (by omega), gw_zeros, Nat.zero_testBit]
  · unfold zeros nofs
    rw [tot_zeros, cnt_nofs]
    omega
def dlaw (objs : List (TO U)) (args : List (TV U)) : Option (Int × List R29) := match objs, args with
  | [], [a0, a1] =>
    match a0 with
    | .v (.int .i64 n) =>
      match a1 with
      | .lst .t29 acts =>
        some (n, acts)
      | _ => none
    | _ => none
  | _, _ => none
theorem dlaw_ok {objs : List (TO U)} {args : List (TV U)} {n : Int} {acts : List R29} (h : dlaw objs args = some (n, acts)) : objs = [] ∧ args = [.v (.int .i64 n), .lst .t29 acts] := by
  unfold dlaw at h
  repeat' split at h
  all_goals first | (cases h; done) | (cases h; exact ⟨rfl, rfl⟩)
def sLaw : Spc U := .of dlaw (fun x => True) (fun x => []) fun x => .v (.bool true)
theorem sLaw_ok : SpecOk Tryd.prog 3 sLaw := by
  refine fn_ok X_ok mixed E3_ok an3 (lpL [(0, lc0), (3, lc3)]) Tryd.func3 (by kernel_rfl) (by kernel_rfl) lp3_ok fun objs args x hx hp => ?_
  obtain ⟨n, acts⟩ := x
  obtain ⟨rfl, rfl⟩ := dlaw_ok hx
  dsimp only
  obtain ⟨m0, m1⟩ := masked_ok n
  rw [e3]
  generalize masked n = m at m0 m1
  have hi := inv0 m0 m1
  have hr := runA_inv (acts := acts) 201 0 hi
  rw [if_pos ⟨m0, by omega⟩, if_pos ⟨m0, rfl, by omega, by omega⟩]
  have e0 : decide (m = m) = true := by simp
  rw [e0, Bool.not_true, cond_false, if_pos ⟨hi, rfl, by decide⟩]
  generalize runA m acts 201 0 (zeros m) (nofs m) = p at hr
  obtain ⟨ws, us⟩ := p
  dsimp only at hr ⊢
  have hul := hr.ul
  have hsum := hr.sum
  rw [if_pos ⟨by omega, by omega, by decide, m0, by decide, by decide⟩, if_pos ⟨hr.pre, m0, hr.wl⟩]
  have e1 : us.drop (Int.toNat 0) = us := rfl
  have e2 : m - (tot ws : Nat) = 0 + (cnt us : Nat) := by omega
  rw [e1, decide_eq_true e2]
end Go.Proofs.YtcbbpidnocgoiaaDoor.Sv
