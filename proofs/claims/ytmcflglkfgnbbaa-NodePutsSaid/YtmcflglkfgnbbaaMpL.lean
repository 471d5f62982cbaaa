/- Texts of this claim, put together: part 12. -/
import Derived.Test.YtmcflglkfgnbbaaMpJ
import Derived.Test.YtmcflglkfgnbbaaMpK
/- Nodes have the document's bytes, and are read again: the function, for each node. -/
namespace Go.Proofs.Ytmcflglkfgnbbaa.Nd
open Go Go.RowKit Go.Proofs.Ytmcflglkfgnbbaa.Eng
set_option linter.unusedVariables false
set_option linter.unusedSimpArgs false
set_option maxRecDepth 20000
set_option pp.fieldNotation false
/-- What is called, Get by a contract of one's own. -/
noncomputable def E6 (G : Spc U) : FuncId → Option (Spc U)
  | 15 => some sAwake
  | 16 => some sSame
  | 17 => some sRef
  | 18 => some sEi
  | 19 => some sPut
  | 24 => some G
  | 25 => some sPutR
  | _ => none
theorem E6_ok {G : Spc U} (hG : SpecOk Try.prog 24 G) : ∀ f S, E6 G f = some S → SpecOk Try.prog f S := fun f S h => by
  unfold E6 at h
  split at h
  · cases h; exact sAwake15_ok
  · cases h; exact sSame_ok
  · cases h; exact sRef_ok
  · cases h; exact sEi_ok
  · cases h; exact sPut_ok
  · cases h; exact hG
  · cases h; exact sPutR_ok
  · cases h
theorem e6lc (l : List
  R24) : (evFn X (E6 (sGetL (cS (Prod.fst (lfP l))) (cV (Prod.snd (lfP l))))) an0 lp0 Try.f6 []
  [TV.lst C.t24 l, TV.v (Value.bool true)] fun (o : List (TO (Cx.U X))) (v : TV (Cx.U X)) => some (o, v)) =
  if true = true then
  bif List.isEmpty (Prod.fst (lfP l)) then
    if N3.Ok { L := true, K := [], V := [], I := [] } then
      if PGl (cS (Prod.fst (lfP l))) (cV (Prod.snd (lfP l))) (N3.put { L := true, K := [], V := [], I := [] }) true then
        if N3.Ok (N4.n3 { L := true, K := [], V := List.map cvR [], I := [] }) then
          bif
              List.beq (ByteArray.toList (N3.put { L := true, K := [], V := [], I := [] }))
                (ByteArray.toList (N3.put (N4.n3 { L := true, K := [], V := List.map cvR [], I := [] }))) then
            if PreRf (List.length (cV (Prod.snd (lfP l)))) then
              if
                  P16
                    { L := true, K := List.headD (Prod.fst (lfP l)) (⟨#[]⟩ : ByteArray) :: List.tail (Prod.fst (lfP l)),
                      V := List.map cvR (cV (Prod.snd (lfP l))), I := [] }
                    { L := true, K := [], V := List.map cvR [], I := [] } 0 then
                some ([], TV.v (Value.bool true))
              else none
            else none
          else some ([], TV.v (Value.bool false))
        else none
      else none
    else none
  else
    if N3.Ok { L := true, K := cS (Prod.fst (lfP l)), V := cV (Prod.snd (lfP l)), I := [] } then
      if
          PGl (cS (Prod.fst (lfP l))) (cV (Prod.snd (lfP l)))
            (N3.put { L := true, K := cS (Prod.fst (lfP l)), V := cV (Prod.snd (lfP l)), I := [] }) true then
        if PreRf (List.length (cV (Prod.snd (lfP l)))) then
          if
              N3.Ok
                (N4.n3
                  { L := true, K := cS (Prod.fst (lfP l)), V := List.map cvR (cV (Prod.snd (lfP l))), I := [] }) then
            bif
                ByteArray.toList
                    (N3.put { L := true, K := cS (Prod.fst (lfP l)), V := cV (Prod.snd (lfP l)), I := [] }) ==
                  ByteArray.toList
                    (N3.put
                      (N4.n3
                        { L := true, K := cS (Prod.fst (lfP l)), V := List.map cvR (cV (Prod.snd (lfP l))),
                          I := [] })) then
              if PreRf (List.length (cV (Prod.snd (lfP l)))) then
                if PreRf (List.length (cV (Prod.snd (lfP l)))) then
                  if
                      P16
                        { L := true, K := List.headD (Prod.fst (lfP l)) (⟨#[]⟩ : ByteArray) :: List.tail (Prod.fst (lfP l)),
                          V := List.map cvR (cV (Prod.snd (lfP l))), I := [] }
                        { L := true, K := cS (Prod.fst (lfP l)), V := List.map cvR (cV (Prod.snd (lfP l))), I := [] }
                        0 then
                    some ([], TV.v (Value.bool true))
                  else none
                else none
              else none
            else some ([], TV.v (Value.bool false))
          else none
        else none
      else none
    else none
else none := by kernel_rfl
theorem e6ln (l : List
  R24) : (evFn X (E6 (sGetL [] [])) an0 lp0 Try.f6 [] [TV.lst C.t24 l, TV.v (Value.bool true)]
  fun (o : List (TO (Cx.U X))) (v : TV (Cx.U X)) => some (o, v)) =
  if true = true then
  bif List.isEmpty (Prod.fst (lfP l)) then
    if N3.Ok { L := true, K := [], V := [], I := [] } then
      if PGl [] [] (N3.put { L := true, K := [], V := [], I := [] }) true then
        if N3.Ok (N4.n3 { L := true, K := [], V := List.map cvR [], I := [] }) then
          bif
              List.beq (ByteArray.toList (N3.put { L := true, K := [], V := [], I := [] }))
                (ByteArray.toList (N3.put (N4.n3 { L := true, K := [], V := List.map cvR [], I := [] }))) then
            if
                P16 { L := true, K := [], V := List.map cvR [], I := [] }
                  { L := true, K := [], V := List.map cvR [], I := [] } 0 then
              some ([], TV.v (Value.bool true))
            else none
          else some ([], TV.v (Value.bool false))
        else none
      else none
    else none
  else
    if N3.Ok { L := true, K := cS (Prod.fst (lfP l)), V := cV (Prod.snd (lfP l)), I := [] } then
      if PGl [] [] (N3.put { L := true, K := cS (Prod.fst (lfP l)), V := cV (Prod.snd (lfP l)), I := [] }) true then
        if PreRf (List.length (cV (Prod.snd (lfP l)))) then
          if
              N3.Ok
                (N4.n3
                  { L := true, K := cS (Prod.fst (lfP l)), V := List.map cvR (cV (Prod.snd (lfP l))), I := [] }) then
            bif
                ByteArray.toList
                    (N3.put { L := true, K := cS (Prod.fst (lfP l)), V := cV (Prod.snd (lfP l)), I := [] }) ==
                  ByteArray.toList
                    (N3.put
                      (N4.n3
                        { L := true, K := cS (Prod.fst (lfP l)), V := List.map cvR (cV (Prod.snd (lfP l))),
                          I := [] })) then
              if PreRf (List.length (cV (Prod.snd (lfP l)))) then
                if
                    P16 { L := true, K := [], V := List.map cvR [], I := [] }
                      { L := true, K := cS (Prod.fst (lfP l)), V := List.map cvR (cV (Prod.snd (lfP l))), I := [] }
                      0 then
                  some ([], TV.v (Value.bool true))
                else none
              else none
            else some ([], TV.v (Value.bool false))
          else none
        else none
      else none
    else none
else none := by kernel_rfl
theorem inI_cons (l : List R24) (k : Nat) : inI l k = 5 :: (inI l k).tail := rfl
theorem e6ic (l : List
  R24) : (evFn X (E6 (sGetI (cS (Prod.fst (lfP l))) 5 (List.tail (inI l (List.length (Prod.fst (lfP l))))))) an0 lp0
  Try.f6 [] [TV.lst C.t24 l, TV.v (Value.bool false)] fun (o : List (TO (Cx.U X))) (v : TV (Cx.U X)) => some (o, v)) =
  if false = false then
  bif List.isEmpty (Prod.fst (lfP l)) then
    if N3.Ok { L := false, K := [], V := [], I := inI l 0 } then
      if
          PGi (cS (Prod.fst (lfP l))) 5 (List.tail (inI l (List.length (Prod.fst (lfP l)))))
            (N3.put { L := false, K := [], V := [], I := inI l 0 }) false then
        if PreRf 0 then
          if N3.Ok (N4.n3 { L := false, K := [], V := List.map cvR [], I := inI l 0 }) then
            bif
                ByteArray.toList (N3.put { L := false, K := [], V := [], I := inI l 0 }) ==
                  ByteArray.toList (N3.put (N4.n3 { L := false, K := [], V := List.map cvR [], I := inI l 0 })) then
              if PreRf 0 then
                if PreRf 0 then
                  if
                      P16
                        { L := false,
                          K := List.headD (Prod.fst (lfP l)) (⟨#[]⟩ : ByteArray) :: List.tail (Prod.fst (lfP l)),
                          V := List.map cvR [], I := 5 :: List.tail (inI l (List.length (Prod.fst (lfP l)))) }
                        { L := false, K := [], V := List.map cvR [], I := inI l 0 } 0 then
                    some ([], TV.v (Value.bool true))
                  else none
                else none
              else none
            else some ([], TV.v (Value.bool false))
          else none
        else none
      else none
    else none
  else
    if N3.Ok { L := false, K := cS (Prod.fst (lfP l)), V := [], I := inI l (List.length (Prod.fst (lfP l))) } then
      if
          PGi (cS (Prod.fst (lfP l))) 5 (List.tail (inI l (List.length (Prod.fst (lfP l)))))
            (N3.put { L := false, K := cS (Prod.fst (lfP l)), V := [], I := inI l (List.length (Prod.fst (lfP l))) })
            false then
        if PreRf 0 then
          if
              N3.Ok
                (N4.n3
                  { L := false, K := cS (Prod.fst (lfP l)), V := List.map cvR [],
                    I := inI l (List.length (Prod.fst (lfP l))) }) then
            bif
                ByteArray.toList
                    (N3.put
                      { L := false, K := cS (Prod.fst (lfP l)), V := [],
                        I := inI l (List.length (Prod.fst (lfP l))) }) ==
                  ByteArray.toList
                    (N3.put
                      (N4.n3
                        { L := false, K := cS (Prod.fst (lfP l)), V := List.map cvR [],
                          I := inI l (List.length (Prod.fst (lfP l))) })) then
              if PreRf 0 then
                if PreRf 0 then
                  if
                      P16
                        { L := false,
                          K := List.headD (Prod.fst (lfP l)) (⟨#[]⟩ : ByteArray) :: List.tail (Prod.fst (lfP l)),
                          V := List.map cvR [], I := 5 :: List.tail (inI l (List.length (Prod.fst (lfP l)))) }
                        { L := false, K := cS (Prod.fst (lfP l)), V := List.map cvR [],
                          I := inI l (List.length (Prod.fst (lfP l))) }
                        0 then
                    some ([], TV.v (Value.bool true))
                  else none
                else none
              else none
            else some ([], TV.v (Value.bool false))
          else none
        else none
      else none
    else none
else none := by kernel_rfl
theorem e6in (l : List
  R24) : (evFn X (E6 (sGetI [] 5 (List.tail (inI l 0)))) an0 lp0 Try.f6 [] [TV.lst C.t24 l, TV.v (Value.bool false)]
  fun (o : List (TO (Cx.U X))) (v : TV (Cx.U X)) => some (o, v)) =
  if false = false then
  bif List.isEmpty (Prod.fst (lfP l)) then
    if N3.Ok { L := false, K := [], V := [], I := inI l 0 } then
      if PGi [] 5 (List.tail (inI l 0)) (N3.put { L := false, K := [], V := [], I := inI l 0 }) false then
        if PreRf 0 then
          if N3.Ok (N4.n3 { L := false, K := [], V := List.map cvR [], I := inI l 0 }) then
            bif
                ByteArray.toList (N3.put { L := false, K := [], V := [], I := inI l 0 }) ==
                  ByteArray.toList (N3.put (N4.n3 { L := false, K := [], V := List.map cvR [], I := inI l 0 })) then
              if PreRf 0 then
                if PreRf 0 then
                  if
                      P16 { L := false, K := [], V := List.map cvR [], I := 5 :: List.tail (inI l 0) }
                        { L := false, K := [], V := List.map cvR [], I := inI l 0 } 0 then
                    some ([], TV.v (Value.bool true))
                  else none
                else none
              else none
            else some ([], TV.v (Value.bool false))
          else none
        else none
      else none
    else none
  else
    if N3.Ok { L := false, K := cS (Prod.fst (lfP l)), V := [], I := inI l (List.length (Prod.fst (lfP l))) } then
      if
          PGi [] 5 (List.tail (inI l 0))
            (N3.put { L := false, K := cS (Prod.fst (lfP l)), V := [], I := inI l (List.length (Prod.fst (lfP l))) })
            false then
        if PreRf 0 then
          if
              N3.Ok
                (N4.n3
                  { L := false, K := cS (Prod.fst (lfP l)), V := List.map cvR [],
                    I := inI l (List.length (Prod.fst (lfP l))) }) then
            bif
                ByteArray.toList
                    (N3.put
                      { L := false, K := cS (Prod.fst (lfP l)), V := [],
                        I := inI l (List.length (Prod.fst (lfP l))) }) ==
                  ByteArray.toList
                    (N3.put
                      (N4.n3
                        { L := false, K := cS (Prod.fst (lfP l)), V := List.map cvR [],
                          I := inI l (List.length (Prod.fst (lfP l))) })) then
              if PreRf 0 then
                if PreRf 0 then
                  if
                      P16 { L := false, K := [], V := List.map cvR [], I := 5 :: List.tail (inI l 0) }
                        { L := false, K := cS (Prod.fst (lfP l)), V := List.map cvR [],
                          I := inI l (List.length (Prod.fst (lfP l))) }
                        0 then
                    some ([], TV.v (Value.bool true))
                  else none
                else none
              else none
            else some ([], TV.v (Value.bool false))
          else none
        else none
      else none
    else none
else none := by kernel_rfl
end Go.Proofs.Ytmcflglkfgnbbaa.Nd

/- What a leaf, or an inner node, of some keys has: nothing too great. -/
namespace Go.Proofs.Ytmcflglkfgnbbaa.Nd
open Go Go.RowKit Go.Proofs.Ytmcflglkfgnbbaa.Eng
set_option linter.unusedVariables false
set_option linter.unusedSimpArgs false
set_option maxRecDepth 20000
theorem mem_insL {α : Type} {xs : List α} {y z : α} {i : Int} (h : z ∈ insL xs [y] i) : z ∈ xs ∨ z = y := by
  unfold insL at h
  rw [List.mem_append, List.mem_append, List.mem_singleton] at h
  rcases h with h | h | h
  · exact .inl (List.mem_of_mem_take h)
  · exact .inr h
  · exact .inl (List.mem_of_mem_drop h)
theorem and_bd (x : Int) : 0 ≤ IntKind.i64.wrap (↑(BitVec.ofInt IntKind.i64.bits x &&& BitVec.ofInt IntKind.i64.bits 16383).toNat : Int) ∧ IntKind.i64.wrap (↑(BitVec.ofInt IntKind.i64.bits x &&& BitVec.ofInt IntKind.i64.bits 16383).toNat : Int) ≤ 16383 := by
  have h : (BitVec.ofInt IntKind.i64.bits x &&& BitVec.ofInt IntKind.i64.bits 16383).toNat ≤ 16383 := by
    rw [BitVec.toNat_and]
    exact Nat.le_trans Nat.and_le_right (by decide)
  rw [wr (by omega) (by omega)]
  omega
theorem pgI_bd (z : R24) : 0 ≤ pgI z ∧ pgI z ≤ 16383 := and_bd z.Page
theorem keyP_size (z : R24) : (keyP z).size ≤ 64 := by
  unfold keyP
  rw [ByteArray.size_extract]
  omega
theorem valP_ok (z : R24) : Vok (valP z) := by
  unfold valP
  cases decide (IntKind.i64.wrap (↑(BitVec.ofInt IntKind.i64.bits z.Page &&& BitVec.ofInt IntKind.i64.bits 1).toNat : Int) = 0) with
  | true =>
    refine ⟨fun h => absurd h (by show ¬ (0 : Int) ≤ -1; omega), fun _ => ⟨rfl, rfl, ?_⟩⟩
    show (z.V.extract 0 (min z.V.size 48)).size ≤ 48
    rw [ByteArray.size_extract]
    omega
  | false =>
    obtain ⟨a1, a2⟩ := and_bd z.Page
    obtain ⟨b1, b2⟩ := and_bd z.Len
    have hw : ∀ y : Int, 0 ≤ y → y ≤ 16383 → IntKind.i64.wrap (49 + y) = 49 + y := fun y h0 h1 => wr (by omega) (by omega)
    refine ⟨fun h => ⟨a2, ?_, ?_, rfl⟩, fun h => absurd h (by show ¬ IntKind.i64.wrap _ < 0; omega)⟩
    · show 48 < IntKind.i64.wrap (49 + _)
      rw [hw _ b1 b2]
      omega
    · show IntKind.i64.wrap (49 + _) ≤ 65536
      rw [hw _ b1 b2]
      omega
theorem fold_all : ∀ (l : List R24) (c : List ByteArray × List R33), (∀ k ∈ c.1, k.size ≤ 64) → (∀ v ∈ c.2, Vok v) → (∀ k ∈ (l.foldl stL c).1, k.size ≤ 64) ∧ ∀ v ∈ (l.foldl stL c).2, Vok v
  | [], c, h1, h2 => ⟨h1, h2⟩
  | z :: l, c, h1, h2 => by
    rw [List.foldl_cons]
    refine fold_all l (stL c z) (fun k hk => ?_) (fun v hv => ?_)
    · have hk : k ∈ sK c.1 (keyP z) := hk
      unfold sK at hk
      cases hi : isK c.1 (keyP z) with
      | true => rw [hi] at hk; exact h1 k hk
      | false =>
        rw [hi] at hk
        rcases mem_insL hk with h | rfl
        · exact h1 k h
        · exact keyP_size z
    · have hv : v ∈ sV c.1 c.2 (keyP z) (valP z) := hv
      unfold sV at hv
      cases hi : isK c.1 (keyP z) with
      | true =>
        rw [hi] at hv
        rcases List.mem_or_eq_of_mem_set hv with h | rfl
        · exact h2 v h
        · exact valP_ok z
      | false =>
        rw [hi] at hv
        rcases mem_insL hv with h | rfl
        · exact h2 v h
        · exact valP_ok z
theorem lf_ok (l : List R24) : LfOk (lfP l).1 (lfP l).2 := by
  obtain ⟨⟨h1, h2, h3⟩, h4⟩ := lfP_ok l
  obtain ⟨h5, h6⟩ := fold_all (l.take 40) ([], []) (by simp) (by simp)
  exact ⟨h1.symm, by omega, h5, h6, h3⟩
theorem li_ok (l : List R24) : LiOk (lfP l).1 5 (inI l (lfP l).1.length).tail := by
  obtain ⟨h1, h2, h3, h4, h5⟩ := lf_ok l
  have h6 := lfP_len l
  refine ⟨?_, h2, h3, by omega, fun n hn => ?_, h5⟩
  · unfold inI
    rw [List.tail_cons, List.length_map, List.length_take]
    omega
  · unfold inI at hn
    rw [List.tail_cons, List.mem_map] at hn
    obtain ⟨z, _, rfl⟩ := hn
    exact pgI_bd z
end Go.Proofs.Ytmcflglkfgnbbaa.Nd

/- Nodes have the document's bytes, and are read again: the function. -/
namespace Go.Proofs.Ytmcflglkfgnbbaa.Nd
open Go Go.RowKit Go.Proofs.Ytmcflglkfgnbbaa.Eng
set_option linter.unusedVariables false
set_option linter.unusedSimpArgs false
set_option maxRecDepth 20000
theorem vok_sz {v : R33} (h : Vok v) : Sz v.Data.size := by
  obtain ⟨h1, h2⟩ := h
  by_cases hp : 0 ≤ v.Page
  · rw [(h1 hp).2.2.2]; exact Nat.zero_le _
  · have := (h2 (by omega)).2.2
    unfold Sz
    omega
theorem leaf_n3 {ks : List ByteArray} {vs : List R33} (h : LfOk ks vs) : N3.Ok ⟨true, ks, vs, []⟩ := by
  obtain ⟨h1, h2, h3, h4, h5⟩ := h
  exact ⟨by show ks.length ≤ _; omega, fun k hk => by have := h3 k hk; unfold Sz; omega, fun v hv => vok_sz (h4 v hv), fun _ => h1, fun h => by cases h⟩
theorem inner_n3 {ks : List ByteArray} {k0 : Int} {ki : List Int} (h : LiOk ks k0 ki) : N3.Ok ⟨false, ks, [], k0 :: ki⟩ := by
  obtain ⟨h1, h2, h3, h4, h5, h6⟩ := h
  exact ⟨by show ks.length ≤ _; omega, fun k hk => by have := h3 k hk; unfold Sz; omega, fun v hv => by (have hv : v ∈ ([] : List R33) := hv; cases hv), (fun h => by cases h), fun _ => by show (k0 :: ki).length = _; rw [List.length_cons, h1]⟩
theorem p16_self {n : N4} (h1 : n.K.length ≤ 1000000) (h2 : n.V.length ≤ 1000000) (h3 : n.I.length ≤ 1000000) : P16 n n 0 := ⟨rfl, rfl, by omega, by omega, by omega⟩
theorem n3_ref (L : Bool) (ks : List ByteArray) (vs : List R33) (ki : List Int) : N4.n3 ⟨L, ks, vs.map cvR, ki⟩ = ⟨L, ks, vs, ki⟩ := refP_n3 L ks vs ki
theorem o6lc (l : List R24) (hne : (lfP l).1.isEmpty = false) : evFn X (E6 (sGetL (cS (lfP l).1) (cV (lfP l).2))) an0 lp0 Try.f6 [] [.lst .t24 l, .v (.bool true)] (fun o v => some (o, v)) = some ([], .v (.bool true)) := by
  have h := lf_ok l
  have h' := h
  obtain ⟨h1, h2, h3, h4, h5⟩ := h'
  have hpos : 0 < (lfP l).1.length := by
    cases hq : (lfP l).1 with
    | nil => rw [hq] at hne; cases hne
    | cons => simp
  have eK : cS (lfP l).1 = (lfP l).1 := cS_eq hpos
  have eV : cV (lfP l).2 = (lfP l).2 := cV_eq (by omega)
  have h0 : LfOk (cS (lfP l).1) (cV (lfP l).2) := by rw [eK, eV]; exact h
  have c1 : N3.Ok ⟨true, cS (lfP l).1, cV (lfP l).2, []⟩ := leaf_n3 h0
  have c2 : PreRf (cV (lfP l).2).length := by unfold PreRf; rw [eV]; omega
  have c3 : P16 ⟨true, cS (lfP l).1, (cV (lfP l).2).map cvR, []⟩ ⟨true, cS (lfP l).1, (cV (lfP l).2).map cvR, []⟩ 0 := p16_self (by show (cS (lfP l).1).length ≤ _; rw [eK]; omega) (by show ((cV (lfP l).2).map cvR).length ≤ _; rw [List.length_map, eV]; omega) (by show ([] : List Int).length ≤ _; simp)
  have c4 : PGl (cS (lfP l).1) (cV (lfP l).2) (N3.put ⟨true, cS (lfP l).1, cV (lfP l).2, []⟩) true := ⟨rfl, h0, rfl⟩
  rw [e6lc, if_pos rfl, hne, cond_false, if_pos c1, if_pos c4, if_pos c2, n3_ref, if_pos c1, beq_self_eq_true, cond_true, if_pos c2, if_pos c2]
  exact if_pos c3
theorem o6ln (l : List R24) (hne : (lfP l).1.isEmpty = true) : evFn X (E6 (sGetL [] [])) an0 lp0 Try.f6 [] [.lst .t24 l, .v (.bool true)] (fun o v => some (o, v)) = some ([], .v (.bool true)) := by
  have h0 : LfOk [] [] := ⟨rfl, by simp, by simp, by simp, List.Pairwise.nil⟩
  have c1 : N3.Ok ⟨true, [], [], []⟩ := leaf_n3 h0
  have c3 : P16 ⟨true, [], ([] : List R33).map cvR, []⟩ ⟨true, [], ([] : List R33).map cvR, []⟩ 0 := p16_self (by simp) (by simp) (by simp)
  have c4 : PGl [] [] (N3.put ⟨true, [], [], []⟩) true := ⟨rfl, h0, rfl⟩
  rw [e6ln, if_pos rfl, hne, cond_true, if_pos c1, if_pos c4, n3_ref, if_pos c1]
  have hb : List.beq (N3.put ⟨true, [], [], []⟩).toList (N3.put ⟨true, [], [], []⟩).toList = true := beq_self_eq_true (α := List UInt8) _
  rw [hb, cond_true]
  exact if_pos c3
end Go.Proofs.Ytmcflglkfgnbbaa.Nd

/- Nodes have the document's bytes, and are read again: inner nodes. -/
namespace Go.Proofs.Ytmcflglkfgnbbaa.Nd
open Go Go.RowKit Go.Proofs.Ytmcflglkfgnbbaa.Eng
set_option linter.unusedVariables false
set_option linter.unusedSimpArgs false
set_option maxRecDepth 20000
theorem o6ic (l : List R24) (hne : (lfP l).1.isEmpty = false) : evFn X (E6 (sGetI (cS (lfP l).1) 5 (inI l (lfP l).1.length).tail)) an0 lp0 Try.f6 [] [.lst .t24 l, .v (.bool false)] (fun o v => some (o, v)) = some ([], .v (.bool true)) := by
  have h := li_ok l
  have h' := h
  obtain ⟨h1, h2, h3, h4, h5, h6⟩ := h'
  have hpos : 0 < (lfP l).1.length := by
    cases hq : (lfP l).1 with
    | nil => rw [hq] at hne; cases hne
    | cons => simp
  have eK : cS (lfP l).1 = (lfP l).1 := cS_eq hpos
  have h0 : LiOk (cS (lfP l).1) 5 (inI l (lfP l).1.length).tail := by rw [eK]; exact h
  have c1 : N3.Ok ⟨false, cS (lfP l).1, [], inI l (lfP l).1.length⟩ := inner_n3 h0
  have hl : (inI l (lfP l).1.length).length ≤ 1000000 := by rw [inI_cons, List.length_cons]; omega
  have c2 : PreRf ([] : List R33).length := Nat.zero_le _
  have c3 : P16 ⟨false, cS (lfP l).1, ([] : List R33).map cvR, inI l (lfP l).1.length⟩ ⟨false, cS (lfP l).1, ([] : List R33).map cvR, inI l (lfP l).1.length⟩ 0 := p16_self (by show (cS (lfP l).1).length ≤ _; rw [eK]; omega) (by simp) hl
  have c4 : PGi (cS (lfP l).1) 5 (inI l (lfP l).1.length).tail (N3.put ⟨false, cS (lfP l).1, [], inI l (lfP l).1.length⟩) false := ⟨rfl, h0, rfl⟩
  rw [e6ic]
  simp only [hne, cond_false, if_pos c1, if_pos c2, if_pos c4, n3_ref, beq_self_eq_true, cond_true, if_true]
  first | exact if_pos c3 | skip
theorem o6in (l : List R24) (hne : (lfP l).1.isEmpty = true) : evFn X (E6 (sGetI [] 5 (inI l 0).tail)) an0 lp0 Try.f6 [] [.lst .t24 l, .v (.bool false)] (fun o v => some (o, v)) = some ([], .v (.bool true)) := by
  have h0 : LiOk [] 5 (inI l 0).tail := ⟨rfl, by simp, by simp, by omega, fun n hn => by (have hn : n ∈ ([] : List Int) := hn; cases hn), List.Pairwise.nil⟩
  have c1 : N3.Ok ⟨false, [], [], inI l 0⟩ := inner_n3 h0
  have c2 : PreRf ([] : List R33).length := Nat.zero_le _
  have c3 : P16 ⟨false, [], ([] : List R33).map cvR, inI l 0⟩ ⟨false, [], ([] : List R33).map cvR, inI l 0⟩ 0 := p16_self (by simp) (by simp) (by show (inI l 0).length ≤ _; rw [inI_cons]; show 1 ≤ _; omega)
  have c4 : PGi [] 5 (inI l 0).tail (N3.put ⟨false, [], [], inI l 0⟩) false := ⟨rfl, h0, rfl⟩
  have hb : ∀ x : ByteArray, List.beq x.toList x.toList = true := fun x => beq_self_eq_true (α := List UInt8) _
  rw [e6in]
  simp only [hne, cond_true, if_pos c1, if_pos c2, if_pos c4, n3_ref, beq_self_eq_true, hb, if_true]
  first | exact if_pos c3 | skip
end Go.Proofs.Ytmcflglkfgnbbaa.Nd

/- Nodes have the document's bytes, and are read again: the contract, for each input. -/
namespace Go.Proofs.Ytmcflglkfgnbbaa.Nd
open Go Go.RowKit Go.Proofs.Ytmcflglkfgnbbaa.Eng
set_option linter.unusedVariables false
def P6 (l : List R24) (b : Bool) (x : List R24 × Bool) : Prop := x = (l, b)
noncomputable instance (l : List R24) (b : Bool) : DecidablePred (P6 l b) := fun _ => Classical.propDecidable _
noncomputable def sLaw6 (l : List R24) (b : Bool) : Spc U := .of d18 (P6 l b) (fun _ => []) fun _ => .v (.bool true)
theorem sLaw6_ok (l : List R24) (b : Bool) : SpecOk Try.prog 6 (sLaw6 l b) := by
  cases b with
  | true =>
    cases hne : (lfP l).1.isEmpty with
    | true =>
      refine fn_ok X_ok mixed (E6_ok (sGetL_ok [] [])) an0 lp0 Try.func6 (by kernel_rfl) (by kernel_rfl) (lp0_ok (by kernel_rfl)) fun objs args x hx hp => ?_
      obtain rfl : x = (l, true) := hp
      obtain ⟨rfl, rfl⟩ := d18_ok hx
      exact o6ln l hne
    | false =>
      refine fn_ok X_ok mixed (E6_ok (sGetL_ok (cS (lfP l).1) (cV (lfP l).2))) an0 lp0 Try.func6 (by kernel_rfl) (by kernel_rfl) (lp0_ok (by kernel_rfl)) fun objs args x hx hp => ?_
      obtain rfl : x = (l, true) := hp
      obtain ⟨rfl, rfl⟩ := d18_ok hx
      exact o6lc l hne
  | false =>
    cases hne : (lfP l).1.isEmpty with
    | true =>
      refine fn_ok X_ok mixed (E6_ok (sGetI_ok [] 5 (inI l 0).tail)) an0 lp0 Try.func6 (by kernel_rfl) (by kernel_rfl) (lp0_ok (by kernel_rfl)) fun objs args x hx hp => ?_
      obtain rfl : x = (l, false) := hp
      obtain ⟨rfl, rfl⟩ := d18_ok hx
      exact o6in l hne
    | false =>
      refine fn_ok X_ok mixed (E6_ok (sGetI_ok (cS (lfP l).1) 5 (inI l (lfP l).1.length).tail)) an0 lp0 Try.func6 (by kernel_rfl) (by kernel_rfl) (lp0_ok (by kernel_rfl)) fun objs args x hx hp => ?_
      obtain rfl : x = (l, false) := hp
      obtain ⟨rfl, rfl⟩ := d18_ok hx
      exact o6ic l hne
theorem law6 (l : List R24) (b : Bool) : HCall Try.prog 6 [] [.lst 4 (l.map encS_t24), .v (.bool b)] [] (.v (.bool true)) :=
  ((sLaw6_ok l b).ok [] [.lst .t24 l, .v (.bool b)] [] (.v (.bool true)) (if_pos (show P6 l b (l, b) from rfl)) rfl rfl rfl).1
end Go.Proofs.Ytmcflglkfgnbbaa.Nd

