/- Texts of this claim, put together: part 13. -/
import Derived.Test.YtmcflglkfgnbbaaDoorMyL
/- What is in both, in either, in the first one alone: the law's function. -/
namespace Go.Proofs.YtmcflglkfgnbbaaDoor.Bt
open Go Go.RowKit Go.Proofs.YtmcflglkfgnbbaaDoor.Eng Go.Proofs.YtmcflglkfgnbbaaDoor.Nd
set_option linter.unusedVariables false
set_option linter.unusedSimpArgs false
set_option maxRecDepth 20000
noncomputable def E5h : FuncId → Option (Spc U)
  | 7 => some sSet
  | 9 => some sAwk
  | 13 => some sSm
  | 15 => some sRLess
  | 16 => some sOrS
  | 17 => some sROr
  | 18 => some sAndS
  | 19 => some sRAnd
  | 20 => some sLessS
  | 21 => some sWi
  | 22 => some sSame
  | 23 => some sEqI
  | _ => none
theorem E5h_ok : ∀ f S, E5h f = some S → SpecOk Tryd.prog f S := fun f S h => by
  unfold E5h at h
  split at h
  · cases h; exact sSet_ok
  · cases h; exact sAwk_ok
  · cases h; exact sSm_ok
  · cases h; exact sRLess_ok
  · cases h; exact sOrS_ok
  · cases h; exact sROr_ok
  · cases h; exact sAndS_ok
  · cases h; exact sRAnd_ok
  · cases h; exact sLessS_ok
  · cases h; exact sWi_ok
  · cases h; exact sSame_ok
  · cases h; exact sEqI_ok
  · cases h
theorem e5 (a : List
  Int) (b : List
  Int) : (evFn X E5h an0 lp0 Tryd.f5 [] [TV.lst C.i64 a, TV.lst C.i64 b] fun (o : List (TO X.U)) (v : TV X.U) =>
  some (o, v)) =
  if True then
  bif (ofP (List.take 100 a)).isEmpty then
    if True then
      bif (ofP (List.take 100 b)).isEmpty then
        if PSs (ofR (List.take 100 a)).length (ofR (List.take 100 b)).length then
          if PSm [] (ofR (List.take 100 a)) then
            if POk2 [] [] then
              if PSo (ofR (List.take 100 a)).length (ofR (List.take 100 b)).length then
                if PSm (OrP [] []) (orR (ofR (List.take 100 a)) (ofR (List.take 100 b))) then
                  if POk2 [] [] then
                    if PSs (ofR (List.take 100 a)).length (ofR (List.take 100 b)).length then
                      if PSm (AndP [] []) (andR (ofR (List.take 100 a)) (ofR (List.take 100 b))) then
                        if POk2 [] [] then
                          if PSs (ofR (List.take 100 a)).length (ofR (List.take 100 b)).length then
                            if PSm (LessP [] []) (lessR (ofR (List.take 100 a)) (ofR (List.take 100 b))) then
                              if POk2 [] [] then
                                bif
                                    true ==
                                      decide
                                        ((↑(lessR (ofR (List.take 100 a)) (ofR (List.take 100 b))).length : Int) =
                                          0) then
                                  if PSz (ofR (List.take 100 a)).length then
                                    bif true == eqI (ofR (List.take 100 a)) (ofR (List.take 100 b)) then
                                      if POk2 [] [] then
                                        if POk2 [] [] then
                                          bif
                                              Decidable.rec
                                                (fun (h : ¬OrP [] [] = OrP [] []) =>
                                                  (fun (x : ¬OrP [] [] = OrP [] []) => false) h)
                                                (fun (h : OrP [] [] = OrP [] []) =>
                                                  (fun (x : OrP [] [] = OrP [] []) => true) h)
                                                (instDecidableEqList (OrP [] []) (OrP [] [])) then
                                            if PSm [] (ofR (List.take 100 a)) then
                                              if PSm [] (ofR (List.take 100 b)) then some ([], TV.v (Value.bool true))
                                              else none
                                            else none
                                          else some ([], TV.v (Value.bool false))
                                        else none
                                      else none
                                    else some ([], TV.v (Value.bool false))
                                  else none
                                else some ([], TV.v (Value.bool false))
                              else none
                            else none
                          else none
                        else none
                      else none
                    else none
                  else none
                else none
              else none
            else none
          else none
        else none
      else
        if PSs (ofR (List.take 100 a)).length (ofR (List.take 100 b)).length then
          if PSm [] (ofR (List.take 100 a)) then
            if POk2 [] (cP (ofP (List.take 100 b))) then
              if PSo (ofR (List.take 100 a)).length (ofR (List.take 100 b)).length then
                if PSm (OrP [] (cP (ofP (List.take 100 b)))) (orR (ofR (List.take 100 a)) (ofR (List.take 100 b))) then
                  if POk2 [] (cP (ofP (List.take 100 b))) then
                    if PSs (ofR (List.take 100 a)).length (ofR (List.take 100 b)).length then
                      if
                          PSm (AndP [] (cP (ofP (List.take 100 b))))
                            (andR (ofR (List.take 100 a)) (ofR (List.take 100 b))) then
                        if POk2 [] (cP (ofP (List.take 100 b))) then
                          if PSs (ofR (List.take 100 a)).length (ofR (List.take 100 b)).length then
                            if
                                PSm (LessP [] (cP (ofP (List.take 100 b))))
                                  (lessR (ofR (List.take 100 a)) (ofR (List.take 100 b))) then
                              if POk2 [] (cP (ofP (List.take 100 b))) then
                                bif
                                    decide ((↑(LessP [] (cP (ofP (List.take 100 b)))).length : Int) = 0) ==
                                      decide
                                        ((↑(lessR (ofR (List.take 100 a)) (ofR (List.take 100 b))).length : Int) =
                                          0) then
                                  if PSz 0 then
                                    if PSz (ofR (List.take 100 a)).length then
                                      bif
                                          eqP [] (cP (ofP (List.take 100 b))) ==
                                            eqI (ofR (List.take 100 a)) (ofR (List.take 100 b)) then
                                        if POk2 [] (cP (ofP (List.take 100 b))) then
                                          if POk2 (cP (ofP (List.take 100 b))) [] then
                                            if PSz (OrP [] (cP (ofP (List.take 100 b)))).length then
                                              bif
                                                  eqP (OrP [] (cP (ofP (List.take 100 b))))
                                                    (OrP (cP (ofP (List.take 100 b))) []) then
                                                if PSm [] (ofR (List.take 100 a)) then
                                                  if PSm (cP (ofP (List.take 100 b))) (ofR (List.take 100 b)) then
                                                    some ([], TV.v (Value.bool true))
                                                  else none
                                                else none
                                              else some ([], TV.v (Value.bool false))
                                            else none
                                          else none
                                        else none
                                      else some ([], TV.v (Value.bool false))
                                    else none
                                  else none
                                else some ([], TV.v (Value.bool false))
                              else none
                            else none
                          else none
                        else none
                      else none
                    else none
                  else none
                else none
              else none
            else none
          else none
        else none
    else none
  else
    if True then
      bif (ofP (List.take 100 b)).isEmpty then
        if PSs (ofR (List.take 100 a)).length (ofR (List.take 100 b)).length then
          if PSm (cP (ofP (List.take 100 a))) (ofR (List.take 100 a)) then
            if POk2 (cP (ofP (List.take 100 a))) [] then
              if PSo (ofR (List.take 100 a)).length (ofR (List.take 100 b)).length then
                if PSm (OrP (cP (ofP (List.take 100 a))) []) (orR (ofR (List.take 100 a)) (ofR (List.take 100 b))) then
                  if POk2 (cP (ofP (List.take 100 a))) [] then
                    if PSs (ofR (List.take 100 a)).length (ofR (List.take 100 b)).length then
                      if
                          PSm (AndP (cP (ofP (List.take 100 a))) [])
                            (andR (ofR (List.take 100 a)) (ofR (List.take 100 b))) then
                        if POk2 (cP (ofP (List.take 100 a))) [] then
                          if PSs (ofR (List.take 100 a)).length (ofR (List.take 100 b)).length then
                            if
                                PSm (LessP (cP (ofP (List.take 100 a))) [])
                                  (lessR (ofR (List.take 100 a)) (ofR (List.take 100 b))) then
                              if POk2 (cP (ofP (List.take 100 a))) [] then
                                bif
                                    decide ((↑(LessP (cP (ofP (List.take 100 a))) []).length : Int) = 0) ==
                                      decide
                                        ((↑(lessR (ofR (List.take 100 a)) (ofR (List.take 100 b))).length : Int) =
                                          0) then
                                  if PSz (cP (ofP (List.take 100 a))).length then
                                    if PSz (ofR (List.take 100 a)).length then
                                      bif
                                          eqP (cP (ofP (List.take 100 a))) [] ==
                                            eqI (ofR (List.take 100 a)) (ofR (List.take 100 b)) then
                                        if POk2 (cP (ofP (List.take 100 a))) [] then
                                          if POk2 [] (cP (ofP (List.take 100 a))) then
                                            if PSz (OrP (cP (ofP (List.take 100 a))) []).length then
                                              bif
                                                  eqP (OrP (cP (ofP (List.take 100 a))) [])
                                                    (OrP [] (cP (ofP (List.take 100 a)))) then
                                                if PSm (cP (ofP (List.take 100 a))) (ofR (List.take 100 a)) then
                                                  if PSm [] (ofR (List.take 100 b)) then
                                                    some ([], TV.v (Value.bool true))
                                                  else none
                                                else none
                                              else some ([], TV.v (Value.bool false))
                                            else none
                                          else none
                                        else none
                                      else some ([], TV.v (Value.bool false))
                                    else none
                                  else none
                                else some ([], TV.v (Value.bool false))
                              else none
                            else none
                          else none
                        else none
                      else none
                    else none
                  else none
                else none
              else none
            else none
          else none
        else none
      else
        if PSs (ofR (List.take 100 a)).length (ofR (List.take 100 b)).length then
          if PSm (cP (ofP (List.take 100 a))) (ofR (List.take 100 a)) then
            if POk2 (cP (ofP (List.take 100 a))) (cP (ofP (List.take 100 b))) then
              if PSo (ofR (List.take 100 a)).length (ofR (List.take 100 b)).length then
                if
                    PSm (OrP (cP (ofP (List.take 100 a))) (cP (ofP (List.take 100 b))))
                      (orR (ofR (List.take 100 a)) (ofR (List.take 100 b))) then
                  if POk2 (cP (ofP (List.take 100 a))) (cP (ofP (List.take 100 b))) then
                    if PSs (ofR (List.take 100 a)).length (ofR (List.take 100 b)).length then
                      if
                          PSm (AndP (cP (ofP (List.take 100 a))) (cP (ofP (List.take 100 b))))
                            (andR (ofR (List.take 100 a)) (ofR (List.take 100 b))) then
                        if POk2 (cP (ofP (List.take 100 a))) (cP (ofP (List.take 100 b))) then
                          if PSs (ofR (List.take 100 a)).length (ofR (List.take 100 b)).length then
                            if
                                PSm (LessP (cP (ofP (List.take 100 a))) (cP (ofP (List.take 100 b))))
                                  (lessR (ofR (List.take 100 a)) (ofR (List.take 100 b))) then
                              if POk2 (cP (ofP (List.take 100 a))) (cP (ofP (List.take 100 b))) then
                                bif
                                    decide
                                        ((↑(LessP (cP (ofP (List.take 100 a))) (cP (ofP (List.take 100 b)))).length :
                                            Int) =
                                          0) ==
                                      decide
                                        ((↑(lessR (ofR (List.take 100 a)) (ofR (List.take 100 b))).length : Int) =
                                          0) then
                                  if PSz (cP (ofP (List.take 100 a))).length then
                                    if PSz (ofR (List.take 100 a)).length then
                                      bif
                                          eqP (cP (ofP (List.take 100 a))) (cP (ofP (List.take 100 b))) ==
                                            eqI (ofR (List.take 100 a)) (ofR (List.take 100 b)) then
                                        if POk2 (cP (ofP (List.take 100 a))) (cP (ofP (List.take 100 b))) then
                                          if POk2 (cP (ofP (List.take 100 b))) (cP (ofP (List.take 100 a))) then
                                            if
                                                PSz
                                                  (OrP (cP (ofP (List.take 100 a)))
                                                      (cP (ofP (List.take 100 b)))).length then
                                              bif
                                                  eqP (OrP (cP (ofP (List.take 100 a))) (cP (ofP (List.take 100 b))))
                                                    (OrP (cP (ofP (List.take 100 b))) (cP (ofP (List.take 100 a)))) then
                                                if PSm (cP (ofP (List.take 100 a))) (ofR (List.take 100 a)) then
                                                  if PSm (cP (ofP (List.take 100 b))) (ofR (List.take 100 b)) then
                                                    some ([], TV.v (Value.bool true))
                                                  else none
                                                else none
                                              else some ([], TV.v (Value.bool false))
                                            else none
                                          else none
                                        else none
                                      else some ([], TV.v (Value.bool false))
                                    else none
                                  else none
                                else some ([], TV.v (Value.bool false))
                              else none
                            else none
                          else none
                        else none
                      else none
                    else none
                  else none
                else none
              else none
            else none
          else none
        else none
    else none
else none := by kernel_rfl
end Go.Proofs.YtmcflglkfgnbbaaDoor.Bt

