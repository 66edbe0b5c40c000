-- PRINTED BY print.sh 35421559b90ae4d0a3588c463048766b98c2df88dd9212a6774a882060cdf62d: not written by this session
import Derived.Test.YtmkdikbjolobdaaPSwageNamesx0
namespace Go.Proofs.Ytmkdikbjolobdaa.PSwageNames
open Go.RowKit Go.Proofs.YtmkdikbjolobdaaW.PrintWords Go.Proofs.YtmkdikbjolobdaaW.PrintLast Go.Proofs.YtmkdikbjolobdaaW.PrintMore
attribute [local go_sem] max2_int min2_int max_two min_two max_three min_three max_four min_four   -- for this text's walks alone
set_option linter.unusedVariables false
set_option linter.unusedSimpArgs false

/-! ### swagelaw0_Num: function 18 -/
def swagelaw0_Num.f (a0 : Int) : Option (Int) := some a0
set_option maxHeartbeats 8000000 in
set_option maxRecDepth 100000 in
theorem swagelaw0_Num.calls (a0 : Int) (r : Int) (w : World) (h : swagelaw0_Num.f a0 = some r) :
    Calls Try.prog 18 #[.int .i64 a0] w fun e w' => e = .returned (.int .i64 r) ∧ Drawn0 w w' := by
  have H : (some a0) = some r := h
  clear h
  obtain rfl := Option.some.inj H
  go_enter Try.func18, Try.ntmps18
  go_wp2
  go_ret
  exact ⟨by first | rfl | (simp; done) | (simp [*]; done), by repeat (first | exact Drawn0.refl _ | apply Drawn0.step)⟩

/-! ### swagelaw0_errors1: function 7 -/
def swagelaw0_errors1.f  : Option (Bool) := (swagelaw0_Num.f 0).bind fun t101 => (if t101 = 0 then ((swagelaw0_Num.f 1).bind fun t102 => (if t102 = 1 then ((swagelaw0_Num.f 100).bind fun t103 => (if t103 = 100 then ((swagelaw0_Num.f 200).bind fun t104 => (if t104 = 200 then ((swagelaw0_Num.f 300).bind fun t105 => (if t105 = 300 then ((swagelaw0_Num.f 400).bind fun t106 => (if t106 = 400 then ((swagelaw0_Num.f 500).bind fun t107 => (if t107 = 500 then ((swagelaw0_Num.f 501).bind fun t108 => (if t108 = 501 then ((swagelaw0_Num.f 502).bind fun t109 => (if t109 = 502 then ((swagelaw0_Num.f 503).bind fun t110 => (if t110 = 503 then ((swagelaw0_Num.f 600).bind fun t111 => (if t111 = 600 then ((swagelaw0_Num.f 700).bind fun t112 => (if t112 = 700 then ((swagelaw0_Num.f 800).bind fun t113 => (if t113 = 800 then ((swagelaw0_Num.f 900).bind fun t114 => (some (t114 == 900))) else (some false))) else (some false))) else (some false))) else (some false))) else (some false))) else (some false))) else (some false))) else (some false))) else (some false))) else (some false))) else (some false))) else (some false))) else (some false))
set_option maxHeartbeats 8000000 in
set_option maxRecDepth 100000 in
theorem swagelaw0_errors1.calls  (r : Bool) (w : World) (h : swagelaw0_errors1.f  = some r) :
    Calls Try.prog 7 #[] w fun e w' => e = .returned (.bool r) ∧ Drawn0 w w' := by
  have H : ((swagelaw0_Num.f 0).bind fun t101 => (if t101 = 0 then ((swagelaw0_Num.f 1).bind fun t102 => (if t102 = 1 then ((swagelaw0_Num.f 100).bind fun t103 => (if t103 = 100 then ((swagelaw0_Num.f 200).bind fun t104 => (if t104 = 200 then ((swagelaw0_Num.f 300).bind fun t105 => (if t105 = 300 then ((swagelaw0_Num.f 400).bind fun t106 => (if t106 = 400 then ((swagelaw0_Num.f 500).bind fun t107 => (if t107 = 500 then ((swagelaw0_Num.f 501).bind fun t108 => (if t108 = 501 then ((swagelaw0_Num.f 502).bind fun t109 => (if t109 = 502 then ((swagelaw0_Num.f 503).bind fun t110 => (if t110 = 503 then ((swagelaw0_Num.f 600).bind fun t111 => (if t111 = 600 then ((swagelaw0_Num.f 700).bind fun t112 => (if t112 = 700 then ((swagelaw0_Num.f 800).bind fun t113 => (if t113 = 800 then ((swagelaw0_Num.f 900).bind fun t114 => (some (t114 == 900))) else (some false))) else (some false))) else (some false))) else (some false))) else (some false))) else (some false))) else (some false))) else (some false))) else (some false))) else (some false))) else (some false))) else (some false))) else (some false))) = some r := h
  clear h
  replace H := Option.bind_eq_some_iff.mp H
  obtain ⟨t101, A10, H⟩ := H
  replace H : (if t101 = 0 then ((swagelaw0_Num.f 1).bind fun t102 => (if t102 = 1 then ((swagelaw0_Num.f 100).bind fun t103 => (if t103 = 100 then ((swagelaw0_Num.f 200).bind fun t104 => (if t104 = 200 then ((swagelaw0_Num.f 300).bind fun t105 => (if t105 = 300 then ((swagelaw0_Num.f 400).bind fun t106 => (if t106 = 400 then ((swagelaw0_Num.f 500).bind fun t107 => (if t107 = 500 then ((swagelaw0_Num.f 501).bind fun t108 => (if t108 = 501 then ((swagelaw0_Num.f 502).bind fun t109 => (if t109 = 502 then ((swagelaw0_Num.f 503).bind fun t110 => (if t110 = 503 then ((swagelaw0_Num.f 600).bind fun t111 => (if t111 = 600 then ((swagelaw0_Num.f 700).bind fun t112 => (if t112 = 700 then ((swagelaw0_Num.f 800).bind fun t113 => (if t113 = 800 then ((swagelaw0_Num.f 900).bind fun t114 => (some (t114 == 900))) else (some false))) else (some false))) else (some false))) else (some false))) else (some false))) else (some false))) else (some false))) else (some false))) else (some false))) else (some false))) else (some false))) else (some false))) else (some false)) = some r := H
  have A1 := Aside0.mk A10
  clear A10
  by_cases c2 : t101 = 0
  · rw [if_pos c2] at H
    have c2b0 : (t101 == 0) = true := beq_iff_eq.mpr c2
    have c2b1 : (t101 != 0) = false := bne_eq_false_iff_eq.mpr c2
    clear c2
    replace H := Option.bind_eq_some_iff.mp H
    obtain ⟨t102, A30, H⟩ := H
    replace H : (if t102 = 1 then ((swagelaw0_Num.f 100).bind fun t103 => (if t103 = 100 then ((swagelaw0_Num.f 200).bind fun t104 => (if t104 = 200 then ((swagelaw0_Num.f 300).bind fun t105 => (if t105 = 300 then ((swagelaw0_Num.f 400).bind fun t106 => (if t106 = 400 then ((swagelaw0_Num.f 500).bind fun t107 => (if t107 = 500 then ((swagelaw0_Num.f 501).bind fun t108 => (if t108 = 501 then ((swagelaw0_Num.f 502).bind fun t109 => (if t109 = 502 then ((swagelaw0_Num.f 503).bind fun t110 => (if t110 = 503 then ((swagelaw0_Num.f 600).bind fun t111 => (if t111 = 600 then ((swagelaw0_Num.f 700).bind fun t112 => (if t112 = 700 then ((swagelaw0_Num.f 800).bind fun t113 => (if t113 = 800 then ((swagelaw0_Num.f 900).bind fun t114 => (some (t114 == 900))) else (some false))) else (some false))) else (some false))) else (some false))) else (some false))) else (some false))) else (some false))) else (some false))) else (some false))) else (some false))) else (some false))) else (some false)) = some r := H
    have A3 := Aside0.mk A30
    clear A30
    by_cases c4 : t102 = 1
    · rw [if_pos c4] at H
      have c4b0 : (t102 == 1) = true := beq_iff_eq.mpr c4
      have c4b1 : (t102 != 1) = false := bne_eq_false_iff_eq.mpr c4
      clear c4
      replace H := Option.bind_eq_some_iff.mp H
      obtain ⟨t103, A50, H⟩ := H
      replace H : (if t103 = 100 then ((swagelaw0_Num.f 200).bind fun t104 => (if t104 = 200 then ((swagelaw0_Num.f 300).bind fun t105 => (if t105 = 300 then ((swagelaw0_Num.f 400).bind fun t106 => (if t106 = 400 then ((swagelaw0_Num.f 500).bind fun t107 => (if t107 = 500 then ((swagelaw0_Num.f 501).bind fun t108 => (if t108 = 501 then ((swagelaw0_Num.f 502).bind fun t109 => (if t109 = 502 then ((swagelaw0_Num.f 503).bind fun t110 => (if t110 = 503 then ((swagelaw0_Num.f 600).bind fun t111 => (if t111 = 600 then ((swagelaw0_Num.f 700).bind fun t112 => (if t112 = 700 then ((swagelaw0_Num.f 800).bind fun t113 => (if t113 = 800 then ((swagelaw0_Num.f 900).bind fun t114 => (some (t114 == 900))) else (some false))) else (some false))) else (some false))) else (some false))) else (some false))) else (some false))) else (some false))) else (some false))) else (some false))) else (some false))) else (some false)) = some r := H
      have A5 := Aside0.mk A50
      clear A50
      by_cases c6 : t103 = 100
      · rw [if_pos c6] at H
        have c6b0 : (t103 == 100) = true := beq_iff_eq.mpr c6
        have c6b1 : (t103 != 100) = false := bne_eq_false_iff_eq.mpr c6
        clear c6
        replace H := Option.bind_eq_some_iff.mp H
        obtain ⟨t104, A70, H⟩ := H
        replace H : (if t104 = 200 then ((swagelaw0_Num.f 300).bind fun t105 => (if t105 = 300 then ((swagelaw0_Num.f 400).bind fun t106 => (if t106 = 400 then ((swagelaw0_Num.f 500).bind fun t107 => (if t107 = 500 then ((swagelaw0_Num.f 501).bind fun t108 => (if t108 = 501 then ((swagelaw0_Num.f 502).bind fun t109 => (if t109 = 502 then ((swagelaw0_Num.f 503).bind fun t110 => (if t110 = 503 then ((swagelaw0_Num.f 600).bind fun t111 => (if t111 = 600 then ((swagelaw0_Num.f 700).bind fun t112 => (if t112 = 700 then ((swagelaw0_Num.f 800).bind fun t113 => (if t113 = 800 then ((swagelaw0_Num.f 900).bind fun t114 => (some (t114 == 900))) else (some false))) else (some false))) else (some false))) else (some false))) else (some false))) else (some false))) else (some false))) else (some false))) else (some false))) else (some false)) = some r := H
        have A7 := Aside0.mk A70
        clear A70
        by_cases c8 : t104 = 200
        · rw [if_pos c8] at H
          have c8b0 : (t104 == 200) = true := beq_iff_eq.mpr c8
          have c8b1 : (t104 != 200) = false := bne_eq_false_iff_eq.mpr c8
          clear c8
          replace H := Option.bind_eq_some_iff.mp H
          obtain ⟨t105, A90, H⟩ := H
          replace H : (if t105 = 300 then ((swagelaw0_Num.f 400).bind fun t106 => (if t106 = 400 then ((swagelaw0_Num.f 500).bind fun t107 => (if t107 = 500 then ((swagelaw0_Num.f 501).bind fun t108 => (if t108 = 501 then ((swagelaw0_Num.f 502).bind fun t109 => (if t109 = 502 then ((swagelaw0_Num.f 503).bind fun t110 => (if t110 = 503 then ((swagelaw0_Num.f 600).bind fun t111 => (if t111 = 600 then ((swagelaw0_Num.f 700).bind fun t112 => (if t112 = 700 then ((swagelaw0_Num.f 800).bind fun t113 => (if t113 = 800 then ((swagelaw0_Num.f 900).bind fun t114 => (some (t114 == 900))) else (some false))) else (some false))) else (some false))) else (some false))) else (some false))) else (some false))) else (some false))) else (some false))) else (some false)) = some r := H
          have A9 := Aside0.mk A90
          clear A90
          by_cases c10 : t105 = 300
          · rw [if_pos c10] at H
            have c10b0 : (t105 == 300) = true := beq_iff_eq.mpr c10
            have c10b1 : (t105 != 300) = false := bne_eq_false_iff_eq.mpr c10
            clear c10
            replace H := Option.bind_eq_some_iff.mp H
            obtain ⟨t106, A110, H⟩ := H
            replace H : (if t106 = 400 then ((swagelaw0_Num.f 500).bind fun t107 => (if t107 = 500 then ((swagelaw0_Num.f 501).bind fun t108 => (if t108 = 501 then ((swagelaw0_Num.f 502).bind fun t109 => (if t109 = 502 then ((swagelaw0_Num.f 503).bind fun t110 => (if t110 = 503 then ((swagelaw0_Num.f 600).bind fun t111 => (if t111 = 600 then ((swagelaw0_Num.f 700).bind fun t112 => (if t112 = 700 then ((swagelaw0_Num.f 800).bind fun t113 => (if t113 = 800 then ((swagelaw0_Num.f 900).bind fun t114 => (some (t114 == 900))) else (some false))) else (some false))) else (some false))) else (some false))) else (some false))) else (some false))) else (some false))) else (some false)) = some r := H
            have A11 := Aside0.mk A110
            clear A110
            by_cases c12 : t106 = 400
            · rw [if_pos c12] at H
              have c12b0 : (t106 == 400) = true := beq_iff_eq.mpr c12
              have c12b1 : (t106 != 400) = false := bne_eq_false_iff_eq.mpr c12
              clear c12
              replace H := Option.bind_eq_some_iff.mp H
              obtain ⟨t107, A130, H⟩ := H
              replace H : (if t107 = 500 then ((swagelaw0_Num.f 501).bind fun t108 => (if t108 = 501 then ((swagelaw0_Num.f 502).bind fun t109 => (if t109 = 502 then ((swagelaw0_Num.f 503).bind fun t110 => (if t110 = 503 then ((swagelaw0_Num.f 600).bind fun t111 => (if t111 = 600 then ((swagelaw0_Num.f 700).bind fun t112 => (if t112 = 700 then ((swagelaw0_Num.f 800).bind fun t113 => (if t113 = 800 then ((swagelaw0_Num.f 900).bind fun t114 => (some (t114 == 900))) else (some false))) else (some false))) else (some false))) else (some false))) else (some false))) else (some false))) else (some false)) = some r := H
              have A13 := Aside0.mk A130
              clear A130
              by_cases c14 : t107 = 500
              · rw [if_pos c14] at H
                have c14b0 : (t107 == 500) = true := beq_iff_eq.mpr c14
                have c14b1 : (t107 != 500) = false := bne_eq_false_iff_eq.mpr c14
                clear c14
                replace H := Option.bind_eq_some_iff.mp H
                obtain ⟨t108, A150, H⟩ := H
                replace H : (if t108 = 501 then ((swagelaw0_Num.f 502).bind fun t109 => (if t109 = 502 then ((swagelaw0_Num.f 503).bind fun t110 => (if t110 = 503 then ((swagelaw0_Num.f 600).bind fun t111 => (if t111 = 600 then ((swagelaw0_Num.f 700).bind fun t112 => (if t112 = 700 then ((swagelaw0_Num.f 800).bind fun t113 => (if t113 = 800 then ((swagelaw0_Num.f 900).bind fun t114 => (some (t114 == 900))) else (some false))) else (some false))) else (some false))) else (some false))) else (some false))) else (some false)) = some r := H
                have A15 := Aside0.mk A150
                clear A150
                by_cases c16 : t108 = 501
                · rw [if_pos c16] at H
                  have c16b0 : (t108 == 501) = true := beq_iff_eq.mpr c16
                  have c16b1 : (t108 != 501) = false := bne_eq_false_iff_eq.mpr c16
                  clear c16
                  replace H := Option.bind_eq_some_iff.mp H
                  obtain ⟨t109, A170, H⟩ := H
                  replace H : (if t109 = 502 then ((swagelaw0_Num.f 503).bind fun t110 => (if t110 = 503 then ((swagelaw0_Num.f 600).bind fun t111 => (if t111 = 600 then ((swagelaw0_Num.f 700).bind fun t112 => (if t112 = 700 then ((swagelaw0_Num.f 800).bind fun t113 => (if t113 = 800 then ((swagelaw0_Num.f 900).bind fun t114 => (some (t114 == 900))) else (some false))) else (some false))) else (some false))) else (some false))) else (some false)) = some r := H
                  have A17 := Aside0.mk A170
                  clear A170
                  by_cases c18 : t109 = 502
                  · rw [if_pos c18] at H
                    have c18b0 : (t109 == 502) = true := beq_iff_eq.mpr c18
                    have c18b1 : (t109 != 502) = false := bne_eq_false_iff_eq.mpr c18
                    clear c18
                    replace H := Option.bind_eq_some_iff.mp H
                    obtain ⟨t110, A190, H⟩ := H
                    replace H : (if t110 = 503 then ((swagelaw0_Num.f 600).bind fun t111 => (if t111 = 600 then ((swagelaw0_Num.f 700).bind fun t112 => (if t112 = 700 then ((swagelaw0_Num.f 800).bind fun t113 => (if t113 = 800 then ((swagelaw0_Num.f 900).bind fun t114 => (some (t114 == 900))) else (some false))) else (some false))) else (some false))) else (some false)) = some r := H
                    have A19 := Aside0.mk A190
                    clear A190
                    by_cases c20 : t110 = 503
                    · rw [if_pos c20] at H
                      have c20b0 : (t110 == 503) = true := beq_iff_eq.mpr c20
                      have c20b1 : (t110 != 503) = false := bne_eq_false_iff_eq.mpr c20
                      clear c20
                      replace H := Option.bind_eq_some_iff.mp H
                      obtain ⟨t111, A210, H⟩ := H
                      replace H : (if t111 = 600 then ((swagelaw0_Num.f 700).bind fun t112 => (if t112 = 700 then ((swagelaw0_Num.f 800).bind fun t113 => (if t113 = 800 then ((swagelaw0_Num.f 900).bind fun t114 => (some (t114 == 900))) else (some false))) else (some false))) else (some false)) = some r := H
                      have A21 := Aside0.mk A210
                      clear A210
                      by_cases c22 : t111 = 600
                      · rw [if_pos c22] at H
                        have c22b0 : (t111 == 600) = true := beq_iff_eq.mpr c22
                        have c22b1 : (t111 != 600) = false := bne_eq_false_iff_eq.mpr c22
                        clear c22
                        replace H := Option.bind_eq_some_iff.mp H
                        obtain ⟨t112, A230, H⟩ := H
                        replace H : (if t112 = 700 then ((swagelaw0_Num.f 800).bind fun t113 => (if t113 = 800 then ((swagelaw0_Num.f 900).bind fun t114 => (some (t114 == 900))) else (some false))) else (some false)) = some r := H
                        have A23 := Aside0.mk A230
                        clear A230
                        by_cases c24 : t112 = 700
                        · rw [if_pos c24] at H
                          have c24b0 : (t112 == 700) = true := beq_iff_eq.mpr c24
                          have c24b1 : (t112 != 700) = false := bne_eq_false_iff_eq.mpr c24
                          clear c24
                          replace H := Option.bind_eq_some_iff.mp H
                          obtain ⟨t113, A250, H⟩ := H
                          replace H : (if t113 = 800 then ((swagelaw0_Num.f 900).bind fun t114 => (some (t114 == 900))) else (some false)) = some r := H
                          have A25 := Aside0.mk A250
                          clear A250
                          by_cases c26 : t113 = 800
                          · rw [if_pos c26] at H
                            have c26b0 : (t113 == 800) = true := beq_iff_eq.mpr c26
                            have c26b1 : (t113 != 800) = false := bne_eq_false_iff_eq.mpr c26
                            clear c26
                            replace H := Option.bind_eq_some_iff.mp H
                            obtain ⟨t114, A270, H⟩ := H
                            replace H : (some (t114 == 900)) = some r := H
                            have A27 := Aside0.mk A270
                            clear A270
                            obtain rfl := Option.some.inj H
                            go_enter Try.func7, Try.ntmps7
                            go_wp2_with (first | ((with_reducible refine gate_callee (f := 18) rfl ?_); refine goesL_ (some 1) rfl rfl Try.func18 (by kernel_rfl) rfl #[.int .i64 0] rfl (by (try simp only [List.map_toArray, List.map_cons, List.map_nil]); first | done | rfl | (simp only [List.length_drop, List.length_take]; rfl)) ?_; (with_reducible refine (swagelaw0_Num.calls 0 t101 _ A1.out).mono ?_); rintro e w' ⟨rfl, ⟨nd, rfl⟩⟩; refine ⟨_, rfl, ?_⟩) | (go_at_call 18; (with_reducible refine (swagelaw0_Num.calls 1 t102 _ A3.out).mono ?_); rintro e w' ⟨rfl, ⟨nd, rfl⟩⟩) | (go_at_call 18; (with_reducible refine (swagelaw0_Num.calls 100 t103 _ A5.out).mono ?_); rintro e w' ⟨rfl, ⟨nd, rfl⟩⟩) | (go_at_call 18; (with_reducible refine (swagelaw0_Num.calls 200 t104 _ A7.out).mono ?_); rintro e w' ⟨rfl, ⟨nd, rfl⟩⟩) | (go_at_call 18; (with_reducible refine (swagelaw0_Num.calls 300 t105 _ A9.out).mono ?_); rintro e w' ⟨rfl, ⟨nd, rfl⟩⟩) | (go_at_call 18; (with_reducible refine (swagelaw0_Num.calls 400 t106 _ A11.out).mono ?_); rintro e w' ⟨rfl, ⟨nd, rfl⟩⟩) | (go_at_call 18; (with_reducible refine (swagelaw0_Num.calls 500 t107 _ A13.out).mono ?_); rintro e w' ⟨rfl, ⟨nd, rfl⟩⟩) | (go_at_call 18; (with_reducible refine (swagelaw0_Num.calls 501 t108 _ A15.out).mono ?_); rintro e w' ⟨rfl, ⟨nd, rfl⟩⟩) | (go_at_call 18; (with_reducible refine (swagelaw0_Num.calls 502 t109 _ A17.out).mono ?_); rintro e w' ⟨rfl, ⟨nd, rfl⟩⟩) | (go_at_call 18; (with_reducible refine (swagelaw0_Num.calls 503 t110 _ A19.out).mono ?_); rintro e w' ⟨rfl, ⟨nd, rfl⟩⟩) | (go_at_call 18; (with_reducible refine (swagelaw0_Num.calls 600 t111 _ A21.out).mono ?_); rintro e w' ⟨rfl, ⟨nd, rfl⟩⟩) | (go_at_call 18; (with_reducible refine (swagelaw0_Num.calls 700 t112 _ A23.out).mono ?_); rintro e w' ⟨rfl, ⟨nd, rfl⟩⟩) | (go_at_call 18; (with_reducible refine (swagelaw0_Num.calls 800 t113 _ A25.out).mono ?_); rintro e w' ⟨rfl, ⟨nd, rfl⟩⟩) | (go_at_call 18; (with_reducible refine (swagelaw0_Num.calls 900 t114 _ A27.out).mono ?_); rintro e w' ⟨rfl, ⟨nd, rfl⟩⟩))
                            go_ret
                            exact ⟨by first | rfl | (simp; done) | (simp [*]; done), by repeat (first | exact Drawn0.refl _ | apply Drawn0.step)⟩
                          · rw [if_neg c26] at H
                            have c26b0 : (t113 == 800) = false := beq_eq_false_iff_ne.mpr c26
                            have c26b1 : (t113 != 800) = true := bne_iff_ne.mpr c26
                            obtain rfl := Option.some.inj H
                            go_enter Try.func7, Try.ntmps7
                            go_wp2_with (first | ((with_reducible refine gate_callee (f := 18) rfl ?_); refine goesL_ (some 1) rfl rfl Try.func18 (by kernel_rfl) rfl #[.int .i64 0] rfl (by (try simp only [List.map_toArray, List.map_cons, List.map_nil]); first | done | rfl | (simp only [List.length_drop, List.length_take]; rfl)) ?_; (with_reducible refine (swagelaw0_Num.calls 0 t101 _ A1.out).mono ?_); rintro e w' ⟨rfl, ⟨nd, rfl⟩⟩; refine ⟨_, rfl, ?_⟩) | (go_at_call 18; (with_reducible refine (swagelaw0_Num.calls 1 t102 _ A3.out).mono ?_); rintro e w' ⟨rfl, ⟨nd, rfl⟩⟩) | (go_at_call 18; (with_reducible refine (swagelaw0_Num.calls 100 t103 _ A5.out).mono ?_); rintro e w' ⟨rfl, ⟨nd, rfl⟩⟩) | (go_at_call 18; (with_reducible refine (swagelaw0_Num.calls 200 t104 _ A7.out).mono ?_); rintro e w' ⟨rfl, ⟨nd, rfl⟩⟩) | (go_at_call 18; (with_reducible refine (swagelaw0_Num.calls 300 t105 _ A9.out).mono ?_); rintro e w' ⟨rfl, ⟨nd, rfl⟩⟩) | (go_at_call 18; (with_reducible refine (swagelaw0_Num.calls 400 t106 _ A11.out).mono ?_); rintro e w' ⟨rfl, ⟨nd, rfl⟩⟩) | (go_at_call 18; (with_reducible refine (swagelaw0_Num.calls 500 t107 _ A13.out).mono ?_); rintro e w' ⟨rfl, ⟨nd, rfl⟩⟩) | (go_at_call 18; (with_reducible refine (swagelaw0_Num.calls 501 t108 _ A15.out).mono ?_); rintro e w' ⟨rfl, ⟨nd, rfl⟩⟩) | (go_at_call 18; (with_reducible refine (swagelaw0_Num.calls 502 t109 _ A17.out).mono ?_); rintro e w' ⟨rfl, ⟨nd, rfl⟩⟩) | (go_at_call 18; (with_reducible refine (swagelaw0_Num.calls 503 t110 _ A19.out).mono ?_); rintro e w' ⟨rfl, ⟨nd, rfl⟩⟩) | (go_at_call 18; (with_reducible refine (swagelaw0_Num.calls 600 t111 _ A21.out).mono ?_); rintro e w' ⟨rfl, ⟨nd, rfl⟩⟩) | (go_at_call 18; (with_reducible refine (swagelaw0_Num.calls 700 t112 _ A23.out).mono ?_); rintro e w' ⟨rfl, ⟨nd, rfl⟩⟩) | (go_at_call 18; (with_reducible refine (swagelaw0_Num.calls 800 t113 _ A25.out).mono ?_); rintro e w' ⟨rfl, ⟨nd, rfl⟩⟩))
                            go_ret
                            exact ⟨by first | rfl | (simp; done) | (simp [*]; done), by repeat (first | exact Drawn0.refl _ | apply Drawn0.step)⟩
                        · rw [if_neg c24] at H
                          have c24b0 : (t112 == 700) = false := beq_eq_false_iff_ne.mpr c24
                          have c24b1 : (t112 != 700) = true := bne_iff_ne.mpr c24
                          obtain rfl := Option.some.inj H
                          go_enter Try.func7, Try.ntmps7
                          go_wp2_with (first | ((with_reducible refine gate_callee (f := 18) rfl ?_); refine goesL_ (some 1) rfl rfl Try.func18 (by kernel_rfl) rfl #[.int .i64 0] rfl (by (try simp only [List.map_toArray, List.map_cons, List.map_nil]); first | done | rfl | (simp only [List.length_drop, List.length_take]; rfl)) ?_; (with_reducible refine (swagelaw0_Num.calls 0 t101 _ A1.out).mono ?_); rintro e w' ⟨rfl, ⟨nd, rfl⟩⟩; refine ⟨_, rfl, ?_⟩) | (go_at_call 18; (with_reducible refine (swagelaw0_Num.calls 1 t102 _ A3.out).mono ?_); rintro e w' ⟨rfl, ⟨nd, rfl⟩⟩) | (go_at_call 18; (with_reducible refine (swagelaw0_Num.calls 100 t103 _ A5.out).mono ?_); rintro e w' ⟨rfl, ⟨nd, rfl⟩⟩) | (go_at_call 18; (with_reducible refine (swagelaw0_Num.calls 200 t104 _ A7.out).mono ?_); rintro e w' ⟨rfl, ⟨nd, rfl⟩⟩) | (go_at_call 18; (with_reducible refine (swagelaw0_Num.calls 300 t105 _ A9.out).mono ?_); rintro e w' ⟨rfl, ⟨nd, rfl⟩⟩) | (go_at_call 18; (with_reducible refine (swagelaw0_Num.calls 400 t106 _ A11.out).mono ?_); rintro e w' ⟨rfl, ⟨nd, rfl⟩⟩) | (go_at_call 18; (with_reducible refine (swagelaw0_Num.calls 500 t107 _ A13.out).mono ?_); rintro e w' ⟨rfl, ⟨nd, rfl⟩⟩) | (go_at_call 18; (with_reducible refine (swagelaw0_Num.calls 501 t108 _ A15.out).mono ?_); rintro e w' ⟨rfl, ⟨nd, rfl⟩⟩) | (go_at_call 18; (with_reducible refine (swagelaw0_Num.calls 502 t109 _ A17.out).mono ?_); rintro e w' ⟨rfl, ⟨nd, rfl⟩⟩) | (go_at_call 18; (with_reducible refine (swagelaw0_Num.calls 503 t110 _ A19.out).mono ?_); rintro e w' ⟨rfl, ⟨nd, rfl⟩⟩) | (go_at_call 18; (with_reducible refine (swagelaw0_Num.calls 600 t111 _ A21.out).mono ?_); rintro e w' ⟨rfl, ⟨nd, rfl⟩⟩) | (go_at_call 18; (with_reducible refine (swagelaw0_Num.calls 700 t112 _ A23.out).mono ?_); rintro e w' ⟨rfl, ⟨nd, rfl⟩⟩))
                          go_ret
                          exact ⟨by first | rfl | (simp; done) | (simp [*]; done), by repeat (first | exact Drawn0.refl _ | apply Drawn0.step)⟩
                      · rw [if_neg c22] at H
                        have c22b0 : (t111 == 600) = false := beq_eq_false_iff_ne.mpr c22
                        have c22b1 : (t111 != 600) = true := bne_iff_ne.mpr c22
                        obtain rfl := Option.some.inj H
                        go_enter Try.func7, Try.ntmps7
                        go_wp2_with (first | ((with_reducible refine gate_callee (f := 18) rfl ?_); refine goesL_ (some 1) rfl rfl Try.func18 (by kernel_rfl) rfl #[.int .i64 0] rfl (by (try simp only [List.map_toArray, List.map_cons, List.map_nil]); first | done | rfl | (simp only [List.length_drop, List.length_take]; rfl)) ?_; (with_reducible refine (swagelaw0_Num.calls 0 t101 _ A1.out).mono ?_); rintro e w' ⟨rfl, ⟨nd, rfl⟩⟩; refine ⟨_, rfl, ?_⟩) | (go_at_call 18; (with_reducible refine (swagelaw0_Num.calls 1 t102 _ A3.out).mono ?_); rintro e w' ⟨rfl, ⟨nd, rfl⟩⟩) | (go_at_call 18; (with_reducible refine (swagelaw0_Num.calls 100 t103 _ A5.out).mono ?_); rintro e w' ⟨rfl, ⟨nd, rfl⟩⟩) | (go_at_call 18; (with_reducible refine (swagelaw0_Num.calls 200 t104 _ A7.out).mono ?_); rintro e w' ⟨rfl, ⟨nd, rfl⟩⟩) | (go_at_call 18; (with_reducible refine (swagelaw0_Num.calls 300 t105 _ A9.out).mono ?_); rintro e w' ⟨rfl, ⟨nd, rfl⟩⟩) | (go_at_call 18; (with_reducible refine (swagelaw0_Num.calls 400 t106 _ A11.out).mono ?_); rintro e w' ⟨rfl, ⟨nd, rfl⟩⟩) | (go_at_call 18; (with_reducible refine (swagelaw0_Num.calls 500 t107 _ A13.out).mono ?_); rintro e w' ⟨rfl, ⟨nd, rfl⟩⟩) | (go_at_call 18; (with_reducible refine (swagelaw0_Num.calls 501 t108 _ A15.out).mono ?_); rintro e w' ⟨rfl, ⟨nd, rfl⟩⟩) | (go_at_call 18; (with_reducible refine (swagelaw0_Num.calls 502 t109 _ A17.out).mono ?_); rintro e w' ⟨rfl, ⟨nd, rfl⟩⟩) | (go_at_call 18; (with_reducible refine (swagelaw0_Num.calls 503 t110 _ A19.out).mono ?_); rintro e w' ⟨rfl, ⟨nd, rfl⟩⟩) | (go_at_call 18; (with_reducible refine (swagelaw0_Num.calls 600 t111 _ A21.out).mono ?_); rintro e w' ⟨rfl, ⟨nd, rfl⟩⟩))
                        go_ret
                        exact ⟨by first | rfl | (simp; done) | (simp [*]; done), by repeat (first | exact Drawn0.refl _ | apply Drawn0.step)⟩
                    · rw [if_neg c20] at H
                      have c20b0 : (t110 == 503) = false := beq_eq_false_iff_ne.mpr c20
                      have c20b1 : (t110 != 503) = true := bne_iff_ne.mpr c20
                      obtain rfl := Option.some.inj H
                      go_enter Try.func7, Try.ntmps7
                      go_wp2_with (first | ((with_reducible refine gate_callee (f := 18) rfl ?_); refine goesL_ (some 1) rfl rfl Try.func18 (by kernel_rfl) rfl #[.int .i64 0] rfl (by (try simp only [List.map_toArray, List.map_cons, List.map_nil]); first | done | rfl | (simp only [List.length_drop, List.length_take]; rfl)) ?_; (with_reducible refine (swagelaw0_Num.calls 0 t101 _ A1.out).mono ?_); rintro e w' ⟨rfl, ⟨nd, rfl⟩⟩; refine ⟨_, rfl, ?_⟩) | (go_at_call 18; (with_reducible refine (swagelaw0_Num.calls 1 t102 _ A3.out).mono ?_); rintro e w' ⟨rfl, ⟨nd, rfl⟩⟩) | (go_at_call 18; (with_reducible refine (swagelaw0_Num.calls 100 t103 _ A5.out).mono ?_); rintro e w' ⟨rfl, ⟨nd, rfl⟩⟩) | (go_at_call 18; (with_reducible refine (swagelaw0_Num.calls 200 t104 _ A7.out).mono ?_); rintro e w' ⟨rfl, ⟨nd, rfl⟩⟩) | (go_at_call 18; (with_reducible refine (swagelaw0_Num.calls 300 t105 _ A9.out).mono ?_); rintro e w' ⟨rfl, ⟨nd, rfl⟩⟩) | (go_at_call 18; (with_reducible refine (swagelaw0_Num.calls 400 t106 _ A11.out).mono ?_); rintro e w' ⟨rfl, ⟨nd, rfl⟩⟩) | (go_at_call 18; (with_reducible refine (swagelaw0_Num.calls 500 t107 _ A13.out).mono ?_); rintro e w' ⟨rfl, ⟨nd, rfl⟩⟩) | (go_at_call 18; (with_reducible refine (swagelaw0_Num.calls 501 t108 _ A15.out).mono ?_); rintro e w' ⟨rfl, ⟨nd, rfl⟩⟩) | (go_at_call 18; (with_reducible refine (swagelaw0_Num.calls 502 t109 _ A17.out).mono ?_); rintro e w' ⟨rfl, ⟨nd, rfl⟩⟩) | (go_at_call 18; (with_reducible refine (swagelaw0_Num.calls 503 t110 _ A19.out).mono ?_); rintro e w' ⟨rfl, ⟨nd, rfl⟩⟩))
                      go_ret
                      exact ⟨by first | rfl | (simp; done) | (simp [*]; done), by repeat (first | exact Drawn0.refl _ | apply Drawn0.step)⟩
                  · rw [if_neg c18] at H
                    have c18b0 : (t109 == 502) = false := beq_eq_false_iff_ne.mpr c18
                    have c18b1 : (t109 != 502) = true := bne_iff_ne.mpr c18
                    obtain rfl := Option.some.inj H
                    go_enter Try.func7, Try.ntmps7
                    go_wp2_with (first | ((with_reducible refine gate_callee (f := 18) rfl ?_); refine goesL_ (some 1) rfl rfl Try.func18 (by kernel_rfl) rfl #[.int .i64 0] rfl (by (try simp only [List.map_toArray, List.map_cons, List.map_nil]); first | done | rfl | (simp only [List.length_drop, List.length_take]; rfl)) ?_; (with_reducible refine (swagelaw0_Num.calls 0 t101 _ A1.out).mono ?_); rintro e w' ⟨rfl, ⟨nd, rfl⟩⟩; refine ⟨_, rfl, ?_⟩) | (go_at_call 18; (with_reducible refine (swagelaw0_Num.calls 1 t102 _ A3.out).mono ?_); rintro e w' ⟨rfl, ⟨nd, rfl⟩⟩) | (go_at_call 18; (with_reducible refine (swagelaw0_Num.calls 100 t103 _ A5.out).mono ?_); rintro e w' ⟨rfl, ⟨nd, rfl⟩⟩) | (go_at_call 18; (with_reducible refine (swagelaw0_Num.calls 200 t104 _ A7.out).mono ?_); rintro e w' ⟨rfl, ⟨nd, rfl⟩⟩) | (go_at_call 18; (with_reducible refine (swagelaw0_Num.calls 300 t105 _ A9.out).mono ?_); rintro e w' ⟨rfl, ⟨nd, rfl⟩⟩) | (go_at_call 18; (with_reducible refine (swagelaw0_Num.calls 400 t106 _ A11.out).mono ?_); rintro e w' ⟨rfl, ⟨nd, rfl⟩⟩) | (go_at_call 18; (with_reducible refine (swagelaw0_Num.calls 500 t107 _ A13.out).mono ?_); rintro e w' ⟨rfl, ⟨nd, rfl⟩⟩) | (go_at_call 18; (with_reducible refine (swagelaw0_Num.calls 501 t108 _ A15.out).mono ?_); rintro e w' ⟨rfl, ⟨nd, rfl⟩⟩) | (go_at_call 18; (with_reducible refine (swagelaw0_Num.calls 502 t109 _ A17.out).mono ?_); rintro e w' ⟨rfl, ⟨nd, rfl⟩⟩))
                    go_ret
                    exact ⟨by first | rfl | (simp; done) | (simp [*]; done), by repeat (first | exact Drawn0.refl _ | apply Drawn0.step)⟩
                · rw [if_neg c16] at H
                  have c16b0 : (t108 == 501) = false := beq_eq_false_iff_ne.mpr c16
                  have c16b1 : (t108 != 501) = true := bne_iff_ne.mpr c16
                  obtain rfl := Option.some.inj H
                  go_enter Try.func7, Try.ntmps7
                  go_wp2_with (first | ((with_reducible refine gate_callee (f := 18) rfl ?_); refine goesL_ (some 1) rfl rfl Try.func18 (by kernel_rfl) rfl #[.int .i64 0] rfl (by (try simp only [List.map_toArray, List.map_cons, List.map_nil]); first | done | rfl | (simp only [List.length_drop, List.length_take]; rfl)) ?_; (with_reducible refine (swagelaw0_Num.calls 0 t101 _ A1.out).mono ?_); rintro e w' ⟨rfl, ⟨nd, rfl⟩⟩; refine ⟨_, rfl, ?_⟩) | (go_at_call 18; (with_reducible refine (swagelaw0_Num.calls 1 t102 _ A3.out).mono ?_); rintro e w' ⟨rfl, ⟨nd, rfl⟩⟩) | (go_at_call 18; (with_reducible refine (swagelaw0_Num.calls 100 t103 _ A5.out).mono ?_); rintro e w' ⟨rfl, ⟨nd, rfl⟩⟩) | (go_at_call 18; (with_reducible refine (swagelaw0_Num.calls 200 t104 _ A7.out).mono ?_); rintro e w' ⟨rfl, ⟨nd, rfl⟩⟩) | (go_at_call 18; (with_reducible refine (swagelaw0_Num.calls 300 t105 _ A9.out).mono ?_); rintro e w' ⟨rfl, ⟨nd, rfl⟩⟩) | (go_at_call 18; (with_reducible refine (swagelaw0_Num.calls 400 t106 _ A11.out).mono ?_); rintro e w' ⟨rfl, ⟨nd, rfl⟩⟩) | (go_at_call 18; (with_reducible refine (swagelaw0_Num.calls 500 t107 _ A13.out).mono ?_); rintro e w' ⟨rfl, ⟨nd, rfl⟩⟩) | (go_at_call 18; (with_reducible refine (swagelaw0_Num.calls 501 t108 _ A15.out).mono ?_); rintro e w' ⟨rfl, ⟨nd, rfl⟩⟩))
                  go_ret
                  exact ⟨by first | rfl | (simp; done) | (simp [*]; done), by repeat (first | exact Drawn0.refl _ | apply Drawn0.step)⟩
              · rw [if_neg c14] at H
                have c14b0 : (t107 == 500) = false := beq_eq_false_iff_ne.mpr c14
                have c14b1 : (t107 != 500) = true := bne_iff_ne.mpr c14
                obtain rfl := Option.some.inj H
                go_enter Try.func7, Try.ntmps7
                go_wp2_with (first | ((with_reducible refine gate_callee (f := 18) rfl ?_); refine goesL_ (some 1) rfl rfl Try.func18 (by kernel_rfl) rfl #[.int .i64 0] rfl (by (try simp only [List.map_toArray, List.map_cons, List.map_nil]); first | done | rfl | (simp only [List.length_drop, List.length_take]; rfl)) ?_; (with_reducible refine (swagelaw0_Num.calls 0 t101 _ A1.out).mono ?_); rintro e w' ⟨rfl, ⟨nd, rfl⟩⟩; refine ⟨_, rfl, ?_⟩) | (go_at_call 18; (with_reducible refine (swagelaw0_Num.calls 1 t102 _ A3.out).mono ?_); rintro e w' ⟨rfl, ⟨nd, rfl⟩⟩) | (go_at_call 18; (with_reducible refine (swagelaw0_Num.calls 100 t103 _ A5.out).mono ?_); rintro e w' ⟨rfl, ⟨nd, rfl⟩⟩) | (go_at_call 18; (with_reducible refine (swagelaw0_Num.calls 200 t104 _ A7.out).mono ?_); rintro e w' ⟨rfl, ⟨nd, rfl⟩⟩) | (go_at_call 18; (with_reducible refine (swagelaw0_Num.calls 300 t105 _ A9.out).mono ?_); rintro e w' ⟨rfl, ⟨nd, rfl⟩⟩) | (go_at_call 18; (with_reducible refine (swagelaw0_Num.calls 400 t106 _ A11.out).mono ?_); rintro e w' ⟨rfl, ⟨nd, rfl⟩⟩) | (go_at_call 18; (with_reducible refine (swagelaw0_Num.calls 500 t107 _ A13.out).mono ?_); rintro e w' ⟨rfl, ⟨nd, rfl⟩⟩))
                go_ret
                exact ⟨by first | rfl | (simp; done) | (simp [*]; done), by repeat (first | exact Drawn0.refl _ | apply Drawn0.step)⟩
            · rw [if_neg c12] at H
              have c12b0 : (t106 == 400) = false := beq_eq_false_iff_ne.mpr c12
              have c12b1 : (t106 != 400) = true := bne_iff_ne.mpr c12
              obtain rfl := Option.some.inj H
              go_enter Try.func7, Try.ntmps7
              go_wp2_with (first | ((with_reducible refine gate_callee (f := 18) rfl ?_); refine goesL_ (some 1) rfl rfl Try.func18 (by kernel_rfl) rfl #[.int .i64 0] rfl (by (try simp only [List.map_toArray, List.map_cons, List.map_nil]); first | done | rfl | (simp only [List.length_drop, List.length_take]; rfl)) ?_; (with_reducible refine (swagelaw0_Num.calls 0 t101 _ A1.out).mono ?_); rintro e w' ⟨rfl, ⟨nd, rfl⟩⟩; refine ⟨_, rfl, ?_⟩) | (go_at_call 18; (with_reducible refine (swagelaw0_Num.calls 1 t102 _ A3.out).mono ?_); rintro e w' ⟨rfl, ⟨nd, rfl⟩⟩) | (go_at_call 18; (with_reducible refine (swagelaw0_Num.calls 100 t103 _ A5.out).mono ?_); rintro e w' ⟨rfl, ⟨nd, rfl⟩⟩) | (go_at_call 18; (with_reducible refine (swagelaw0_Num.calls 200 t104 _ A7.out).mono ?_); rintro e w' ⟨rfl, ⟨nd, rfl⟩⟩) | (go_at_call 18; (with_reducible refine (swagelaw0_Num.calls 300 t105 _ A9.out).mono ?_); rintro e w' ⟨rfl, ⟨nd, rfl⟩⟩) | (go_at_call 18; (with_reducible refine (swagelaw0_Num.calls 400 t106 _ A11.out).mono ?_); rintro e w' ⟨rfl, ⟨nd, rfl⟩⟩))
              go_ret
              exact ⟨by first | rfl | (simp; done) | (simp [*]; done), by repeat (first | exact Drawn0.refl _ | apply Drawn0.step)⟩
          · rw [if_neg c10] at H
            have c10b0 : (t105 == 300) = false := beq_eq_false_iff_ne.mpr c10
            have c10b1 : (t105 != 300) = true := bne_iff_ne.mpr c10
            obtain rfl := Option.some.inj H
            go_enter Try.func7, Try.ntmps7
            go_wp2_with (first | ((with_reducible refine gate_callee (f := 18) rfl ?_); refine goesL_ (some 1) rfl rfl Try.func18 (by kernel_rfl) rfl #[.int .i64 0] rfl (by (try simp only [List.map_toArray, List.map_cons, List.map_nil]); first | done | rfl | (simp only [List.length_drop, List.length_take]; rfl)) ?_; (with_reducible refine (swagelaw0_Num.calls 0 t101 _ A1.out).mono ?_); rintro e w' ⟨rfl, ⟨nd, rfl⟩⟩; refine ⟨_, rfl, ?_⟩) | (go_at_call 18; (with_reducible refine (swagelaw0_Num.calls 1 t102 _ A3.out).mono ?_); rintro e w' ⟨rfl, ⟨nd, rfl⟩⟩) | (go_at_call 18; (with_reducible refine (swagelaw0_Num.calls 100 t103 _ A5.out).mono ?_); rintro e w' ⟨rfl, ⟨nd, rfl⟩⟩) | (go_at_call 18; (with_reducible refine (swagelaw0_Num.calls 200 t104 _ A7.out).mono ?_); rintro e w' ⟨rfl, ⟨nd, rfl⟩⟩) | (go_at_call 18; (with_reducible refine (swagelaw0_Num.calls 300 t105 _ A9.out).mono ?_); rintro e w' ⟨rfl, ⟨nd, rfl⟩⟩))
            go_ret
            exact ⟨by first | rfl | (simp; done) | (simp [*]; done), by repeat (first | exact Drawn0.refl _ | apply Drawn0.step)⟩
        · rw [if_neg c8] at H
          have c8b0 : (t104 == 200) = false := beq_eq_false_iff_ne.mpr c8
          have c8b1 : (t104 != 200) = true := bne_iff_ne.mpr c8
          obtain rfl := Option.some.inj H
          go_enter Try.func7, Try.ntmps7
          go_wp2_with (first | ((with_reducible refine gate_callee (f := 18) rfl ?_); refine goesL_ (some 1) rfl rfl Try.func18 (by kernel_rfl) rfl #[.int .i64 0] rfl (by (try simp only [List.map_toArray, List.map_cons, List.map_nil]); first | done | rfl | (simp only [List.length_drop, List.length_take]; rfl)) ?_; (with_reducible refine (swagelaw0_Num.calls 0 t101 _ A1.out).mono ?_); rintro e w' ⟨rfl, ⟨nd, rfl⟩⟩; refine ⟨_, rfl, ?_⟩) | (go_at_call 18; (with_reducible refine (swagelaw0_Num.calls 1 t102 _ A3.out).mono ?_); rintro e w' ⟨rfl, ⟨nd, rfl⟩⟩) | (go_at_call 18; (with_reducible refine (swagelaw0_Num.calls 100 t103 _ A5.out).mono ?_); rintro e w' ⟨rfl, ⟨nd, rfl⟩⟩) | (go_at_call 18; (with_reducible refine (swagelaw0_Num.calls 200 t104 _ A7.out).mono ?_); rintro e w' ⟨rfl, ⟨nd, rfl⟩⟩))
          go_ret
          exact ⟨by first | rfl | (simp; done) | (simp [*]; done), by repeat (first | exact Drawn0.refl _ | apply Drawn0.step)⟩
      · rw [if_neg c6] at H
        have c6b0 : (t103 == 100) = false := beq_eq_false_iff_ne.mpr c6
        have c6b1 : (t103 != 100) = true := bne_iff_ne.mpr c6
        obtain rfl := Option.some.inj H
        go_enter Try.func7, Try.ntmps7
        go_wp2_with (first | ((with_reducible refine gate_callee (f := 18) rfl ?_); refine goesL_ (some 1) rfl rfl Try.func18 (by kernel_rfl) rfl #[.int .i64 0] rfl (by (try simp only [List.map_toArray, List.map_cons, List.map_nil]); first | done | rfl | (simp only [List.length_drop, List.length_take]; rfl)) ?_; (with_reducible refine (swagelaw0_Num.calls 0 t101 _ A1.out).mono ?_); rintro e w' ⟨rfl, ⟨nd, rfl⟩⟩; refine ⟨_, rfl, ?_⟩) | (go_at_call 18; (with_reducible refine (swagelaw0_Num.calls 1 t102 _ A3.out).mono ?_); rintro e w' ⟨rfl, ⟨nd, rfl⟩⟩) | (go_at_call 18; (with_reducible refine (swagelaw0_Num.calls 100 t103 _ A5.out).mono ?_); rintro e w' ⟨rfl, ⟨nd, rfl⟩⟩))
        go_ret
        exact ⟨by first | rfl | (simp; done) | (simp [*]; done), by repeat (first | exact Drawn0.refl _ | apply Drawn0.step)⟩
    · rw [if_neg c4] at H
      have c4b0 : (t102 == 1) = false := beq_eq_false_iff_ne.mpr c4
      have c4b1 : (t102 != 1) = true := bne_iff_ne.mpr c4
      obtain rfl := Option.some.inj H
      go_enter Try.func7, Try.ntmps7
      go_wp2_with (first | ((with_reducible refine gate_callee (f := 18) rfl ?_); refine goesL_ (some 1) rfl rfl Try.func18 (by kernel_rfl) rfl #[.int .i64 0] rfl (by (try simp only [List.map_toArray, List.map_cons, List.map_nil]); first | done | rfl | (simp only [List.length_drop, List.length_take]; rfl)) ?_; (with_reducible refine (swagelaw0_Num.calls 0 t101 _ A1.out).mono ?_); rintro e w' ⟨rfl, ⟨nd, rfl⟩⟩; refine ⟨_, rfl, ?_⟩) | (go_at_call 18; (with_reducible refine (swagelaw0_Num.calls 1 t102 _ A3.out).mono ?_); rintro e w' ⟨rfl, ⟨nd, rfl⟩⟩))
      go_ret
      exact ⟨by first | rfl | (simp; done) | (simp [*]; done), by repeat (first | exact Drawn0.refl _ | apply Drawn0.step)⟩
  · rw [if_neg c2] at H
    have c2b0 : (t101 == 0) = false := beq_eq_false_iff_ne.mpr c2
    have c2b1 : (t101 != 0) = true := bne_iff_ne.mpr c2
    obtain rfl := Option.some.inj H
    go_enter Try.func7, Try.ntmps7
    go_wp2_with (first | ((with_reducible refine gate_callee (f := 18) rfl ?_); refine goesL_ (some 1) rfl rfl Try.func18 (by kernel_rfl) rfl #[.int .i64 0] rfl (by (try simp only [List.map_toArray, List.map_cons, List.map_nil]); first | done | rfl | (simp only [List.length_drop, List.length_take]; rfl)) ?_; (with_reducible refine (swagelaw0_Num.calls 0 t101 _ A1.out).mono ?_); rintro e w' ⟨rfl, ⟨nd, rfl⟩⟩; refine ⟨_, rfl, ?_⟩))
    go_ret
    exact ⟨by first | rfl | (simp; done) | (simp [*]; done), by repeat (first | exact Drawn0.refl _ | apply Drawn0.step)⟩

/-! ### swagelaw0_errors2: function 8 -/
def swagelaw0_errors2.f  : Option (Bool) := (swagelaw0_Num.f 1000).bind fun t115 => (if t115 = 1000 then ((swagelaw0_Num.f 1100).bind fun t116 => (if t116 = 1100 then ((swagelaw0_Num.f 1200).bind fun t117 => (if t117 = 1200 then ((swagelaw0_Num.f 1300).bind fun t118 => (if t118 = 1300 then ((swagelaw0_Num.f 1301).bind fun t119 => (if t119 = 1301 then ((swagelaw0_Num.f 1400).bind fun t120 => (if t120 = 1400 then ((swagelaw0_Num.f 1401).bind fun t121 => (if t121 = 1401 then ((swagelaw0_Num.f 1500).bind fun t122 => (if t122 = 1500 then ((swagelaw0_Num.f 1600).bind fun t123 => (if t123 = 1600 then ((swagelaw0_Num.f 1700).bind fun t124 => (if t124 = 1700 then ((swagelaw0_Num.f 1800).bind fun t125 => (if t125 = 1800 then ((swagelaw0_Num.f 1900).bind fun t126 => (if t126 = 1900 then ((swagelaw0_Num.f 1901).bind fun t127 => (if t127 = 1901 then ((swagelaw0_Num.f 2000).bind fun t128 => (some (t128 == 2000))) else (some false))) else (some false))) else (some false))) else (some false))) else (some false))) else (some false))) else (some false))) else (some false))) else (some false))) else (some false))) else (some false))) else (some false))) else (some false))
set_option maxHeartbeats 8000000 in
set_option maxRecDepth 100000 in
theorem swagelaw0_errors2.calls  (r : Bool) (w : World) (h : swagelaw0_errors2.f  = some r) :
    Calls Try.prog 8 #[] w fun e w' => e = .returned (.bool r) ∧ Drawn0 w w' := by
  have H : ((swagelaw0_Num.f 1000).bind fun t115 => (if t115 = 1000 then ((swagelaw0_Num.f 1100).bind fun t116 => (if t116 = 1100 then ((swagelaw0_Num.f 1200).bind fun t117 => (if t117 = 1200 then ((swagelaw0_Num.f 1300).bind fun t118 => (if t118 = 1300 then ((swagelaw0_Num.f 1301).bind fun t119 => (if t119 = 1301 then ((swagelaw0_Num.f 1400).bind fun t120 => (if t120 = 1400 then ((swagelaw0_Num.f 1401).bind fun t121 => (if t121 = 1401 then ((swagelaw0_Num.f 1500).bind fun t122 => (if t122 = 1500 then ((swagelaw0_Num.f 1600).bind fun t123 => (if t123 = 1600 then ((swagelaw0_Num.f 1700).bind fun t124 => (if t124 = 1700 then ((swagelaw0_Num.f 1800).bind fun t125 => (if t125 = 1800 then ((swagelaw0_Num.f 1900).bind fun t126 => (if t126 = 1900 then ((swagelaw0_Num.f 1901).bind fun t127 => (if t127 = 1901 then ((swagelaw0_Num.f 2000).bind fun t128 => (some (t128 == 2000))) else (some false))) else (some false))) else (some false))) else (some false))) else (some false))) else (some false))) else (some false))) else (some false))) else (some false))) else (some false))) else (some false))) else (some false))) else (some false))) = some r := h
  clear h
  replace H := Option.bind_eq_some_iff.mp H
  obtain ⟨t115, A10, H⟩ := H
  replace H : (if t115 = 1000 then ((swagelaw0_Num.f 1100).bind fun t116 => (if t116 = 1100 then ((swagelaw0_Num.f 1200).bind fun t117 => (if t117 = 1200 then ((swagelaw0_Num.f 1300).bind fun t118 => (if t118 = 1300 then ((swagelaw0_Num.f 1301).bind fun t119 => (if t119 = 1301 then ((swagelaw0_Num.f 1400).bind fun t120 => (if t120 = 1400 then ((swagelaw0_Num.f 1401).bind fun t121 => (if t121 = 1401 then ((swagelaw0_Num.f 1500).bind fun t122 => (if t122 = 1500 then ((swagelaw0_Num.f 1600).bind fun t123 => (if t123 = 1600 then ((swagelaw0_Num.f 1700).bind fun t124 => (if t124 = 1700 then ((swagelaw0_Num.f 1800).bind fun t125 => (if t125 = 1800 then ((swagelaw0_Num.f 1900).bind fun t126 => (if t126 = 1900 then ((swagelaw0_Num.f 1901).bind fun t127 => (if t127 = 1901 then ((swagelaw0_Num.f 2000).bind fun t128 => (some (t128 == 2000))) else (some false))) else (some false))) else (some false))) else (some false))) else (some false))) else (some false))) else (some false))) else (some false))) else (some false))) else (some false))) else (some false))) else (some false))) else (some false)) = some r := H
  have A1 := Aside0.mk A10
  clear A10
  by_cases c2 : t115 = 1000
  · rw [if_pos c2] at H
    have c2b0 : (t115 == 1000) = true := beq_iff_eq.mpr c2
    have c2b1 : (t115 != 1000) = false := bne_eq_false_iff_eq.mpr c2
    clear c2
    replace H := Option.bind_eq_some_iff.mp H
    obtain ⟨t116, A30, H⟩ := H
    replace H : (if t116 = 1100 then ((swagelaw0_Num.f 1200).bind fun t117 => (if t117 = 1200 then ((swagelaw0_Num.f 1300).bind fun t118 => (if t118 = 1300 then ((swagelaw0_Num.f 1301).bind fun t119 => (if t119 = 1301 then ((swagelaw0_Num.f 1400).bind fun t120 => (if t120 = 1400 then ((swagelaw0_Num.f 1401).bind fun t121 => (if t121 = 1401 then ((swagelaw0_Num.f 1500).bind fun t122 => (if t122 = 1500 then ((swagelaw0_Num.f 1600).bind fun t123 => (if t123 = 1600 then ((swagelaw0_Num.f 1700).bind fun t124 => (if t124 = 1700 then ((swagelaw0_Num.f 1800).bind fun t125 => (if t125 = 1800 then ((swagelaw0_Num.f 1900).bind fun t126 => (if t126 = 1900 then ((swagelaw0_Num.f 1901).bind fun t127 => (if t127 = 1901 then ((swagelaw0_Num.f 2000).bind fun t128 => (some (t128 == 2000))) else (some false))) else (some false))) else (some false))) else (some false))) else (some false))) else (some false))) else (some false))) else (some false))) else (some false))) else (some false))) else (some false))) else (some false)) = some r := H
    have A3 := Aside0.mk A30
    clear A30
    by_cases c4 : t116 = 1100
    · rw [if_pos c4] at H
      have c4b0 : (t116 == 1100) = true := beq_iff_eq.mpr c4
      have c4b1 : (t116 != 1100) = false := bne_eq_false_iff_eq.mpr c4
      clear c4
      replace H := Option.bind_eq_some_iff.mp H
      obtain ⟨t117, A50, H⟩ := H
      replace H : (if t117 = 1200 then ((swagelaw0_Num.f 1300).bind fun t118 => (if t118 = 1300 then ((swagelaw0_Num.f 1301).bind fun t119 => (if t119 = 1301 then ((swagelaw0_Num.f 1400).bind fun t120 => (if t120 = 1400 then ((swagelaw0_Num.f 1401).bind fun t121 => (if t121 = 1401 then ((swagelaw0_Num.f 1500).bind fun t122 => (if t122 = 1500 then ((swagelaw0_Num.f 1600).bind fun t123 => (if t123 = 1600 then ((swagelaw0_Num.f 1700).bind fun t124 => (if t124 = 1700 then ((swagelaw0_Num.f 1800).bind fun t125 => (if t125 = 1800 then ((swagelaw0_Num.f 1900).bind fun t126 => (if t126 = 1900 then ((swagelaw0_Num.f 1901).bind fun t127 => (if t127 = 1901 then ((swagelaw0_Num.f 2000).bind fun t128 => (some (t128 == 2000))) else (some false))) else (some false))) else (some false))) else (some false))) else (some false))) else (some false))) else (some false))) else (some false))) else (some false))) else (some false))) else (some false)) = some r := H
      have A5 := Aside0.mk A50
      clear A50
      by_cases c6 : t117 = 1200
      · rw [if_pos c6] at H
        have c6b0 : (t117 == 1200) = true := beq_iff_eq.mpr c6
        have c6b1 : (t117 != 1200) = false := bne_eq_false_iff_eq.mpr c6
        clear c6
        replace H := Option.bind_eq_some_iff.mp H
        obtain ⟨t118, A70, H⟩ := H
        replace H : (if t118 = 1300 then ((swagelaw0_Num.f 1301).bind fun t119 => (if t119 = 1301 then ((swagelaw0_Num.f 1400).bind fun t120 => (if t120 = 1400 then ((swagelaw0_Num.f 1401).bind fun t121 => (if t121 = 1401 then ((swagelaw0_Num.f 1500).bind fun t122 => (if t122 = 1500 then ((swagelaw0_Num.f 1600).bind fun t123 => (if t123 = 1600 then ((swagelaw0_Num.f 1700).bind fun t124 => (if t124 = 1700 then ((swagelaw0_Num.f 1800).bind fun t125 => (if t125 = 1800 then ((swagelaw0_Num.f 1900).bind fun t126 => (if t126 = 1900 then ((swagelaw0_Num.f 1901).bind fun t127 => (if t127 = 1901 then ((swagelaw0_Num.f 2000).bind fun t128 => (some (t128 == 2000))) else (some false))) else (some false))) else (some false))) else (some false))) else (some false))) else (some false))) else (some false))) else (some false))) else (some false))) else (some false)) = some r := H
        have A7 := Aside0.mk A70
        clear A70
        by_cases c8 : t118 = 1300
        · rw [if_pos c8] at H
          have c8b0 : (t118 == 1300) = true := beq_iff_eq.mpr c8
          have c8b1 : (t118 != 1300) = false := bne_eq_false_iff_eq.mpr c8
          clear c8
          replace H := Option.bind_eq_some_iff.mp H
          obtain ⟨t119, A90, H⟩ := H
          replace H : (if t119 = 1301 then ((swagelaw0_Num.f 1400).bind fun t120 => (if t120 = 1400 then ((swagelaw0_Num.f 1401).bind fun t121 => (if t121 = 1401 then ((swagelaw0_Num.f 1500).bind fun t122 => (if t122 = 1500 then ((swagelaw0_Num.f 1600).bind fun t123 => (if t123 = 1600 then ((swagelaw0_Num.f 1700).bind fun t124 => (if t124 = 1700 then ((swagelaw0_Num.f 1800).bind fun t125 => (if t125 = 1800 then ((swagelaw0_Num.f 1900).bind fun t126 => (if t126 = 1900 then ((swagelaw0_Num.f 1901).bind fun t127 => (if t127 = 1901 then ((swagelaw0_Num.f 2000).bind fun t128 => (some (t128 == 2000))) else (some false))) else (some false))) else (some false))) else (some false))) else (some false))) else (some false))) else (some false))) else (some false))) else (some false)) = some r := H
          have A9 := Aside0.mk A90
          clear A90
          by_cases c10 : t119 = 1301
          · rw [if_pos c10] at H
            have c10b0 : (t119 == 1301) = true := beq_iff_eq.mpr c10
            have c10b1 : (t119 != 1301) = false := bne_eq_false_iff_eq.mpr c10
            clear c10
            replace H := Option.bind_eq_some_iff.mp H
            obtain ⟨t120, A110, H⟩ := H
            replace H : (if t120 = 1400 then ((swagelaw0_Num.f 1401).bind fun t121 => (if t121 = 1401 then ((swagelaw0_Num.f 1500).bind fun t122 => (if t122 = 1500 then ((swagelaw0_Num.f 1600).bind fun t123 => (if t123 = 1600 then ((swagelaw0_Num.f 1700).bind fun t124 => (if t124 = 1700 then ((swagelaw0_Num.f 1800).bind fun t125 => (if t125 = 1800 then ((swagelaw0_Num.f 1900).bind fun t126 => (if t126 = 1900 then ((swagelaw0_Num.f 1901).bind fun t127 => (if t127 = 1901 then ((swagelaw0_Num.f 2000).bind fun t128 => (some (t128 == 2000))) else (some false))) else (some false))) else (some false))) else (some false))) else (some false))) else (some false))) else (some false))) else (some false)) = some r := H
            have A11 := Aside0.mk A110
            clear A110
            by_cases c12 : t120 = 1400
            · rw [if_pos c12] at H
              have c12b0 : (t120 == 1400) = true := beq_iff_eq.mpr c12
              have c12b1 : (t120 != 1400) = false := bne_eq_false_iff_eq.mpr c12
              clear c12
              replace H := Option.bind_eq_some_iff.mp H
              obtain ⟨t121, A130, H⟩ := H
              replace H : (if t121 = 1401 then ((swagelaw0_Num.f 1500).bind fun t122 => (if t122 = 1500 then ((swagelaw0_Num.f 1600).bind fun t123 => (if t123 = 1600 then ((swagelaw0_Num.f 1700).bind fun t124 => (if t124 = 1700 then ((swagelaw0_Num.f 1800).bind fun t125 => (if t125 = 1800 then ((swagelaw0_Num.f 1900).bind fun t126 => (if t126 = 1900 then ((swagelaw0_Num.f 1901).bind fun t127 => (if t127 = 1901 then ((swagelaw0_Num.f 2000).bind fun t128 => (some (t128 == 2000))) else (some false))) else (some false))) else (some false))) else (some false))) else (some false))) else (some false))) else (some false)) = some r := H
              have A13 := Aside0.mk A130
              clear A130
              by_cases c14 : t121 = 1401
              · rw [if_pos c14] at H
                have c14b0 : (t121 == 1401) = true := beq_iff_eq.mpr c14
                have c14b1 : (t121 != 1401) = false := bne_eq_false_iff_eq.mpr c14
                clear c14
                replace H := Option.bind_eq_some_iff.mp H
                obtain ⟨t122, A150, H⟩ := H
                replace H : (if t122 = 1500 then ((swagelaw0_Num.f 1600).bind fun t123 => (if t123 = 1600 then ((swagelaw0_Num.f 1700).bind fun t124 => (if t124 = 1700 then ((swagelaw0_Num.f 1800).bind fun t125 => (if t125 = 1800 then ((swagelaw0_Num.f 1900).bind fun t126 => (if t126 = 1900 then ((swagelaw0_Num.f 1901).bind fun t127 => (if t127 = 1901 then ((swagelaw0_Num.f 2000).bind fun t128 => (some (t128 == 2000))) else (some false))) else (some false))) else (some false))) else (some false))) else (some false))) else (some false)) = some r := H
                have A15 := Aside0.mk A150
                clear A150
                by_cases c16 : t122 = 1500
                · rw [if_pos c16] at H
                  have c16b0 : (t122 == 1500) = true := beq_iff_eq.mpr c16
                  have c16b1 : (t122 != 1500) = false := bne_eq_false_iff_eq.mpr c16
                  clear c16
                  replace H := Option.bind_eq_some_iff.mp H
                  obtain ⟨t123, A170, H⟩ := H
                  replace H : (if t123 = 1600 then ((swagelaw0_Num.f 1700).bind fun t124 => (if t124 = 1700 then ((swagelaw0_Num.f 1800).bind fun t125 => (if t125 = 1800 then ((swagelaw0_Num.f 1900).bind fun t126 => (if t126 = 1900 then ((swagelaw0_Num.f 1901).bind fun t127 => (if t127 = 1901 then ((swagelaw0_Num.f 2000).bind fun t128 => (some (t128 == 2000))) else (some false))) else (some false))) else (some false))) else (some false))) else (some false)) = some r := H
                  have A17 := Aside0.mk A170
                  clear A170
                  by_cases c18 : t123 = 1600
                  · rw [if_pos c18] at H
                    have c18b0 : (t123 == 1600) = true := beq_iff_eq.mpr c18
                    have c18b1 : (t123 != 1600) = false := bne_eq_false_iff_eq.mpr c18
                    clear c18
                    replace H := Option.bind_eq_some_iff.mp H
                    obtain ⟨t124, A190, H⟩ := H
                    replace H : (if t124 = 1700 then ((swagelaw0_Num.f 1800).bind fun t125 => (if t125 = 1800 then ((swagelaw0_Num.f 1900).bind fun t126 => (if t126 = 1900 then ((swagelaw0_Num.f 1901).bind fun t127 => (if t127 = 1901 then ((swagelaw0_Num.f 2000).bind fun t128 => (some (t128 == 2000))) else (some false))) else (some false))) else (some false))) else (some false)) = some r := H
                    have A19 := Aside0.mk A190
                    clear A190
                    by_cases c20 : t124 = 1700
                    · rw [if_pos c20] at H
                      have c20b0 : (t124 == 1700) = true := beq_iff_eq.mpr c20
                      have c20b1 : (t124 != 1700) = false := bne_eq_false_iff_eq.mpr c20
                      clear c20
                      replace H := Option.bind_eq_some_iff.mp H
                      obtain ⟨t125, A210, H⟩ := H
                      replace H : (if t125 = 1800 then ((swagelaw0_Num.f 1900).bind fun t126 => (if t126 = 1900 then ((swagelaw0_Num.f 1901).bind fun t127 => (if t127 = 1901 then ((swagelaw0_Num.f 2000).bind fun t128 => (some (t128 == 2000))) else (some false))) else (some false))) else (some false)) = some r := H
                      have A21 := Aside0.mk A210
                      clear A210
                      by_cases c22 : t125 = 1800
                      · rw [if_pos c22] at H
                        have c22b0 : (t125 == 1800) = true := beq_iff_eq.mpr c22
                        have c22b1 : (t125 != 1800) = false := bne_eq_false_iff_eq.mpr c22
                        clear c22
                        replace H := Option.bind_eq_some_iff.mp H
                        obtain ⟨t126, A230, H⟩ := H
                        replace H : (if t126 = 1900 then ((swagelaw0_Num.f 1901).bind fun t127 => (if t127 = 1901 then ((swagelaw0_Num.f 2000).bind fun t128 => (some (t128 == 2000))) else (some false))) else (some false)) = some r := H
                        have A23 := Aside0.mk A230
                        clear A230
                        by_cases c24 : t126 = 1900
                        · rw [if_pos c24] at H
                          have c24b0 : (t126 == 1900) = true := beq_iff_eq.mpr c24
                          have c24b1 : (t126 != 1900) = false := bne_eq_false_iff_eq.mpr c24
                          clear c24
                          replace H := Option.bind_eq_some_iff.mp H
                          obtain ⟨t127, A250, H⟩ := H
                          replace H : (if t127 = 1901 then ((swagelaw0_Num.f 2000).bind fun t128 => (some (t128 == 2000))) else (some false)) = some r := H
                          have A25 := Aside0.mk A250
                          clear A250
                          by_cases c26 : t127 = 1901
                          · rw [if_pos c26] at H
                            have c26b0 : (t127 == 1901) = true := beq_iff_eq.mpr c26
                            have c26b1 : (t127 != 1901) = false := bne_eq_false_iff_eq.mpr c26
                            clear c26
                            replace H := Option.bind_eq_some_iff.mp H
                            obtain ⟨t128, A270, H⟩ := H
                            replace H : (some (t128 == 2000)) = some r := H
                            have A27 := Aside0.mk A270
                            clear A270
                            obtain rfl := Option.some.inj H
                            go_enter Try.func8, Try.ntmps8
                            go_wp2_with (first | ((with_reducible refine gate_callee (f := 18) rfl ?_); refine goesL_ (some 1) rfl rfl Try.func18 (by kernel_rfl) rfl #[.int .i64 1000] rfl (by (try simp only [List.map_toArray, List.map_cons, List.map_nil]); first | done | rfl | (simp only [List.length_drop, List.length_take]; rfl)) ?_; (with_reducible refine (swagelaw0_Num.calls 1000 t115 _ A1.out).mono ?_); rintro e w' ⟨rfl, ⟨nd, rfl⟩⟩; refine ⟨_, rfl, ?_⟩) | (go_at_call 18; (with_reducible refine (swagelaw0_Num.calls 1100 t116 _ A3.out).mono ?_); rintro e w' ⟨rfl, ⟨nd, rfl⟩⟩) | (go_at_call 18; (with_reducible refine (swagelaw0_Num.calls 1200 t117 _ A5.out).mono ?_); rintro e w' ⟨rfl, ⟨nd, rfl⟩⟩) | (go_at_call 18; (with_reducible refine (swagelaw0_Num.calls 1300 t118 _ A7.out).mono ?_); rintro e w' ⟨rfl, ⟨nd, rfl⟩⟩) | (go_at_call 18; (with_reducible refine (swagelaw0_Num.calls 1301 t119 _ A9.out).mono ?_); rintro e w' ⟨rfl, ⟨nd, rfl⟩⟩) | (go_at_call 18; (with_reducible refine (swagelaw0_Num.calls 1400 t120 _ A11.out).mono ?_); rintro e w' ⟨rfl, ⟨nd, rfl⟩⟩) | (go_at_call 18; (with_reducible refine (swagelaw0_Num.calls 1401 t121 _ A13.out).mono ?_); rintro e w' ⟨rfl, ⟨nd, rfl⟩⟩) | (go_at_call 18; (with_reducible refine (swagelaw0_Num.calls 1500 t122 _ A15.out).mono ?_); rintro e w' ⟨rfl, ⟨nd, rfl⟩⟩) | (go_at_call 18; (with_reducible refine (swagelaw0_Num.calls 1600 t123 _ A17.out).mono ?_); rintro e w' ⟨rfl, ⟨nd, rfl⟩⟩) | (go_at_call 18; (with_reducible refine (swagelaw0_Num.calls 1700 t124 _ A19.out).mono ?_); rintro e w' ⟨rfl, ⟨nd, rfl⟩⟩) | (go_at_call 18; (with_reducible refine (swagelaw0_Num.calls 1800 t125 _ A21.out).mono ?_); rintro e w' ⟨rfl, ⟨nd, rfl⟩⟩) | (go_at_call 18; (with_reducible refine (swagelaw0_Num.calls 1900 t126 _ A23.out).mono ?_); rintro e w' ⟨rfl, ⟨nd, rfl⟩⟩) | (go_at_call 18; (with_reducible refine (swagelaw0_Num.calls 1901 t127 _ A25.out).mono ?_); rintro e w' ⟨rfl, ⟨nd, rfl⟩⟩) | (go_at_call 18; (with_reducible refine (swagelaw0_Num.calls 2000 t128 _ A27.out).mono ?_); rintro e w' ⟨rfl, ⟨nd, rfl⟩⟩))
                            go_ret
                            exact ⟨by first | rfl | (simp; done) | (simp [*]; done), by repeat (first | exact Drawn0.refl _ | apply Drawn0.step)⟩
                          · rw [if_neg c26] at H
                            have c26b0 : (t127 == 1901) = false := beq_eq_false_iff_ne.mpr c26
                            have c26b1 : (t127 != 1901) = true := bne_iff_ne.mpr c26
                            obtain rfl := Option.some.inj H
                            go_enter Try.func8, Try.ntmps8
                            go_wp2_with (first | ((with_reducible refine gate_callee (f := 18) rfl ?_); refine goesL_ (some 1) rfl rfl Try.func18 (by kernel_rfl) rfl #[.int .i64 1000] rfl (by (try simp only [List.map_toArray, List.map_cons, List.map_nil]); first | done | rfl | (simp only [List.length_drop, List.length_take]; rfl)) ?_; (with_reducible refine (swagelaw0_Num.calls 1000 t115 _ A1.out).mono ?_); rintro e w' ⟨rfl, ⟨nd, rfl⟩⟩; refine ⟨_, rfl, ?_⟩) | (go_at_call 18; (with_reducible refine (swagelaw0_Num.calls 1100 t116 _ A3.out).mono ?_); rintro e w' ⟨rfl, ⟨nd, rfl⟩⟩) | (go_at_call 18; (with_reducible refine (swagelaw0_Num.calls 1200 t117 _ A5.out).mono ?_); rintro e w' ⟨rfl, ⟨nd, rfl⟩⟩) | (go_at_call 18; (with_reducible refine (swagelaw0_Num.calls 1300 t118 _ A7.out).mono ?_); rintro e w' ⟨rfl, ⟨nd, rfl⟩⟩) | (go_at_call 18; (with_reducible refine (swagelaw0_Num.calls 1301 t119 _ A9.out).mono ?_); rintro e w' ⟨rfl, ⟨nd, rfl⟩⟩) | (go_at_call 18; (with_reducible refine (swagelaw0_Num.calls 1400 t120 _ A11.out).mono ?_); rintro e w' ⟨rfl, ⟨nd, rfl⟩⟩) | (go_at_call 18; (with_reducible refine (swagelaw0_Num.calls 1401 t121 _ A13.out).mono ?_); rintro e w' ⟨rfl, ⟨nd, rfl⟩⟩) | (go_at_call 18; (with_reducible refine (swagelaw0_Num.calls 1500 t122 _ A15.out).mono ?_); rintro e w' ⟨rfl, ⟨nd, rfl⟩⟩) | (go_at_call 18; (with_reducible refine (swagelaw0_Num.calls 1600 t123 _ A17.out).mono ?_); rintro e w' ⟨rfl, ⟨nd, rfl⟩⟩) | (go_at_call 18; (with_reducible refine (swagelaw0_Num.calls 1700 t124 _ A19.out).mono ?_); rintro e w' ⟨rfl, ⟨nd, rfl⟩⟩) | (go_at_call 18; (with_reducible refine (swagelaw0_Num.calls 1800 t125 _ A21.out).mono ?_); rintro e w' ⟨rfl, ⟨nd, rfl⟩⟩) | (go_at_call 18; (with_reducible refine (swagelaw0_Num.calls 1900 t126 _ A23.out).mono ?_); rintro e w' ⟨rfl, ⟨nd, rfl⟩⟩) | (go_at_call 18; (with_reducible refine (swagelaw0_Num.calls 1901 t127 _ A25.out).mono ?_); rintro e w' ⟨rfl, ⟨nd, rfl⟩⟩))
                            go_ret
                            exact ⟨by first | rfl | (simp; done) | (simp [*]; done), by repeat (first | exact Drawn0.refl _ | apply Drawn0.step)⟩
                        · rw [if_neg c24] at H
                          have c24b0 : (t126 == 1900) = false := beq_eq_false_iff_ne.mpr c24
                          have c24b1 : (t126 != 1900) = true := bne_iff_ne.mpr c24
                          obtain rfl := Option.some.inj H
                          go_enter Try.func8, Try.ntmps8
                          go_wp2_with (first | ((with_reducible refine gate_callee (f := 18) rfl ?_); refine goesL_ (some 1) rfl rfl Try.func18 (by kernel_rfl) rfl #[.int .i64 1000] rfl (by (try simp only [List.map_toArray, List.map_cons, List.map_nil]); first | done | rfl | (simp only [List.length_drop, List.length_take]; rfl)) ?_; (with_reducible refine (swagelaw0_Num.calls 1000 t115 _ A1.out).mono ?_); rintro e w' ⟨rfl, ⟨nd, rfl⟩⟩; refine ⟨_, rfl, ?_⟩) | (go_at_call 18; (with_reducible refine (swagelaw0_Num.calls 1100 t116 _ A3.out).mono ?_); rintro e w' ⟨rfl, ⟨nd, rfl⟩⟩) | (go_at_call 18; (with_reducible refine (swagelaw0_Num.calls 1200 t117 _ A5.out).mono ?_); rintro e w' ⟨rfl, ⟨nd, rfl⟩⟩) | (go_at_call 18; (with_reducible refine (swagelaw0_Num.calls 1300 t118 _ A7.out).mono ?_); rintro e w' ⟨rfl, ⟨nd, rfl⟩⟩) | (go_at_call 18; (with_reducible refine (swagelaw0_Num.calls 1301 t119 _ A9.out).mono ?_); rintro e w' ⟨rfl, ⟨nd, rfl⟩⟩) | (go_at_call 18; (with_reducible refine (swagelaw0_Num.calls 1400 t120 _ A11.out).mono ?_); rintro e w' ⟨rfl, ⟨nd, rfl⟩⟩) | (go_at_call 18; (with_reducible refine (swagelaw0_Num.calls 1401 t121 _ A13.out).mono ?_); rintro e w' ⟨rfl, ⟨nd, rfl⟩⟩) | (go_at_call 18; (with_reducible refine (swagelaw0_Num.calls 1500 t122 _ A15.out).mono ?_); rintro e w' ⟨rfl, ⟨nd, rfl⟩⟩) | (go_at_call 18; (with_reducible refine (swagelaw0_Num.calls 1600 t123 _ A17.out).mono ?_); rintro e w' ⟨rfl, ⟨nd, rfl⟩⟩) | (go_at_call 18; (with_reducible refine (swagelaw0_Num.calls 1700 t124 _ A19.out).mono ?_); rintro e w' ⟨rfl, ⟨nd, rfl⟩⟩) | (go_at_call 18; (with_reducible refine (swagelaw0_Num.calls 1800 t125 _ A21.out).mono ?_); rintro e w' ⟨rfl, ⟨nd, rfl⟩⟩) | (go_at_call 18; (with_reducible refine (swagelaw0_Num.calls 1900 t126 _ A23.out).mono ?_); rintro e w' ⟨rfl, ⟨nd, rfl⟩⟩))
                          go_ret
                          exact ⟨by first | rfl | (simp; done) | (simp [*]; done), by repeat (first | exact Drawn0.refl _ | apply Drawn0.step)⟩
                      · rw [if_neg c22] at H
                        have c22b0 : (t125 == 1800) = false := beq_eq_false_iff_ne.mpr c22
                        have c22b1 : (t125 != 1800) = true := bne_iff_ne.mpr c22
                        obtain rfl := Option.some.inj H
                        go_enter Try.func8, Try.ntmps8
                        go_wp2_with (first | ((with_reducible refine gate_callee (f := 18) rfl ?_); refine goesL_ (some 1) rfl rfl Try.func18 (by kernel_rfl) rfl #[.int .i64 1000] rfl (by (try simp only [List.map_toArray, List.map_cons, List.map_nil]); first | done | rfl | (simp only [List.length_drop, List.length_take]; rfl)) ?_; (with_reducible refine (swagelaw0_Num.calls 1000 t115 _ A1.out).mono ?_); rintro e w' ⟨rfl, ⟨nd, rfl⟩⟩; refine ⟨_, rfl, ?_⟩) | (go_at_call 18; (with_reducible refine (swagelaw0_Num.calls 1100 t116 _ A3.out).mono ?_); rintro e w' ⟨rfl, ⟨nd, rfl⟩⟩) | (go_at_call 18; (with_reducible refine (swagelaw0_Num.calls 1200 t117 _ A5.out).mono ?_); rintro e w' ⟨rfl, ⟨nd, rfl⟩⟩) | (go_at_call 18; (with_reducible refine (swagelaw0_Num.calls 1300 t118 _ A7.out).mono ?_); rintro e w' ⟨rfl, ⟨nd, rfl⟩⟩) | (go_at_call 18; (with_reducible refine (swagelaw0_Num.calls 1301 t119 _ A9.out).mono ?_); rintro e w' ⟨rfl, ⟨nd, rfl⟩⟩) | (go_at_call 18; (with_reducible refine (swagelaw0_Num.calls 1400 t120 _ A11.out).mono ?_); rintro e w' ⟨rfl, ⟨nd, rfl⟩⟩) | (go_at_call 18; (with_reducible refine (swagelaw0_Num.calls 1401 t121 _ A13.out).mono ?_); rintro e w' ⟨rfl, ⟨nd, rfl⟩⟩) | (go_at_call 18; (with_reducible refine (swagelaw0_Num.calls 1500 t122 _ A15.out).mono ?_); rintro e w' ⟨rfl, ⟨nd, rfl⟩⟩) | (go_at_call 18; (with_reducible refine (swagelaw0_Num.calls 1600 t123 _ A17.out).mono ?_); rintro e w' ⟨rfl, ⟨nd, rfl⟩⟩) | (go_at_call 18; (with_reducible refine (swagelaw0_Num.calls 1700 t124 _ A19.out).mono ?_); rintro e w' ⟨rfl, ⟨nd, rfl⟩⟩) | (go_at_call 18; (with_reducible refine (swagelaw0_Num.calls 1800 t125 _ A21.out).mono ?_); rintro e w' ⟨rfl, ⟨nd, rfl⟩⟩))
                        go_ret
                        exact ⟨by first | rfl | (simp; done) | (simp [*]; done), by repeat (first | exact Drawn0.refl _ | apply Drawn0.step)⟩
                    · rw [if_neg c20] at H
                      have c20b0 : (t124 == 1700) = false := beq_eq_false_iff_ne.mpr c20
                      have c20b1 : (t124 != 1700) = true := bne_iff_ne.mpr c20
                      obtain rfl := Option.some.inj H
                      go_enter Try.func8, Try.ntmps8
                      go_wp2_with (first | ((with_reducible refine gate_callee (f := 18) rfl ?_); refine goesL_ (some 1) rfl rfl Try.func18 (by kernel_rfl) rfl #[.int .i64 1000] rfl (by (try simp only [List.map_toArray, List.map_cons, List.map_nil]); first | done | rfl | (simp only [List.length_drop, List.length_take]; rfl)) ?_; (with_reducible refine (swagelaw0_Num.calls 1000 t115 _ A1.out).mono ?_); rintro e w' ⟨rfl, ⟨nd, rfl⟩⟩; refine ⟨_, rfl, ?_⟩) | (go_at_call 18; (with_reducible refine (swagelaw0_Num.calls 1100 t116 _ A3.out).mono ?_); rintro e w' ⟨rfl, ⟨nd, rfl⟩⟩) | (go_at_call 18; (with_reducible refine (swagelaw0_Num.calls 1200 t117 _ A5.out).mono ?_); rintro e w' ⟨rfl, ⟨nd, rfl⟩⟩) | (go_at_call 18; (with_reducible refine (swagelaw0_Num.calls 1300 t118 _ A7.out).mono ?_); rintro e w' ⟨rfl, ⟨nd, rfl⟩⟩) | (go_at_call 18; (with_reducible refine (swagelaw0_Num.calls 1301 t119 _ A9.out).mono ?_); rintro e w' ⟨rfl, ⟨nd, rfl⟩⟩) | (go_at_call 18; (with_reducible refine (swagelaw0_Num.calls 1400 t120 _ A11.out).mono ?_); rintro e w' ⟨rfl, ⟨nd, rfl⟩⟩) | (go_at_call 18; (with_reducible refine (swagelaw0_Num.calls 1401 t121 _ A13.out).mono ?_); rintro e w' ⟨rfl, ⟨nd, rfl⟩⟩) | (go_at_call 18; (with_reducible refine (swagelaw0_Num.calls 1500 t122 _ A15.out).mono ?_); rintro e w' ⟨rfl, ⟨nd, rfl⟩⟩) | (go_at_call 18; (with_reducible refine (swagelaw0_Num.calls 1600 t123 _ A17.out).mono ?_); rintro e w' ⟨rfl, ⟨nd, rfl⟩⟩) | (go_at_call 18; (with_reducible refine (swagelaw0_Num.calls 1700 t124 _ A19.out).mono ?_); rintro e w' ⟨rfl, ⟨nd, rfl⟩⟩))
                      go_ret
                      exact ⟨by first | rfl | (simp; done) | (simp [*]; done), by repeat (first | exact Drawn0.refl _ | apply Drawn0.step)⟩
                  · rw [if_neg c18] at H
                    have c18b0 : (t123 == 1600) = false := beq_eq_false_iff_ne.mpr c18
                    have c18b1 : (t123 != 1600) = true := bne_iff_ne.mpr c18
                    obtain rfl := Option.some.inj H
                    go_enter Try.func8, Try.ntmps8
                    go_wp2_with (first | ((with_reducible refine gate_callee (f := 18) rfl ?_); refine goesL_ (some 1) rfl rfl Try.func18 (by kernel_rfl) rfl #[.int .i64 1000] rfl (by (try simp only [List.map_toArray, List.map_cons, List.map_nil]); first | done | rfl | (simp only [List.length_drop, List.length_take]; rfl)) ?_; (with_reducible refine (swagelaw0_Num.calls 1000 t115 _ A1.out).mono ?_); rintro e w' ⟨rfl, ⟨nd, rfl⟩⟩; refine ⟨_, rfl, ?_⟩) | (go_at_call 18; (with_reducible refine (swagelaw0_Num.calls 1100 t116 _ A3.out).mono ?_); rintro e w' ⟨rfl, ⟨nd, rfl⟩⟩) | (go_at_call 18; (with_reducible refine (swagelaw0_Num.calls 1200 t117 _ A5.out).mono ?_); rintro e w' ⟨rfl, ⟨nd, rfl⟩⟩) | (go_at_call 18; (with_reducible refine (swagelaw0_Num.calls 1300 t118 _ A7.out).mono ?_); rintro e w' ⟨rfl, ⟨nd, rfl⟩⟩) | (go_at_call 18; (with_reducible refine (swagelaw0_Num.calls 1301 t119 _ A9.out).mono ?_); rintro e w' ⟨rfl, ⟨nd, rfl⟩⟩) | (go_at_call 18; (with_reducible refine (swagelaw0_Num.calls 1400 t120 _ A11.out).mono ?_); rintro e w' ⟨rfl, ⟨nd, rfl⟩⟩) | (go_at_call 18; (with_reducible refine (swagelaw0_Num.calls 1401 t121 _ A13.out).mono ?_); rintro e w' ⟨rfl, ⟨nd, rfl⟩⟩) | (go_at_call 18; (with_reducible refine (swagelaw0_Num.calls 1500 t122 _ A15.out).mono ?_); rintro e w' ⟨rfl, ⟨nd, rfl⟩⟩) | (go_at_call 18; (with_reducible refine (swagelaw0_Num.calls 1600 t123 _ A17.out).mono ?_); rintro e w' ⟨rfl, ⟨nd, rfl⟩⟩))
                    go_ret
                    exact ⟨by first | rfl | (simp; done) | (simp [*]; done), by repeat (first | exact Drawn0.refl _ | apply Drawn0.step)⟩
                · rw [if_neg c16] at H
                  have c16b0 : (t122 == 1500) = false := beq_eq_false_iff_ne.mpr c16
                  have c16b1 : (t122 != 1500) = true := bne_iff_ne.mpr c16
                  obtain rfl := Option.some.inj H
                  go_enter Try.func8, Try.ntmps8
                  go_wp2_with (first | ((with_reducible refine gate_callee (f := 18) rfl ?_); refine goesL_ (some 1) rfl rfl Try.func18 (by kernel_rfl) rfl #[.int .i64 1000] rfl (by (try simp only [List.map_toArray, List.map_cons, List.map_nil]); first | done | rfl | (simp only [List.length_drop, List.length_take]; rfl)) ?_; (with_reducible refine (swagelaw0_Num.calls 1000 t115 _ A1.out).mono ?_); rintro e w' ⟨rfl, ⟨nd, rfl⟩⟩; refine ⟨_, rfl, ?_⟩) | (go_at_call 18; (with_reducible refine (swagelaw0_Num.calls 1100 t116 _ A3.out).mono ?_); rintro e w' ⟨rfl, ⟨nd, rfl⟩⟩) | (go_at_call 18; (with_reducible refine (swagelaw0_Num.calls 1200 t117 _ A5.out).mono ?_); rintro e w' ⟨rfl, ⟨nd, rfl⟩⟩) | (go_at_call 18; (with_reducible refine (swagelaw0_Num.calls 1300 t118 _ A7.out).mono ?_); rintro e w' ⟨rfl, ⟨nd, rfl⟩⟩) | (go_at_call 18; (with_reducible refine (swagelaw0_Num.calls 1301 t119 _ A9.out).mono ?_); rintro e w' ⟨rfl, ⟨nd, rfl⟩⟩) | (go_at_call 18; (with_reducible refine (swagelaw0_Num.calls 1400 t120 _ A11.out).mono ?_); rintro e w' ⟨rfl, ⟨nd, rfl⟩⟩) | (go_at_call 18; (with_reducible refine (swagelaw0_Num.calls 1401 t121 _ A13.out).mono ?_); rintro e w' ⟨rfl, ⟨nd, rfl⟩⟩) | (go_at_call 18; (with_reducible refine (swagelaw0_Num.calls 1500 t122 _ A15.out).mono ?_); rintro e w' ⟨rfl, ⟨nd, rfl⟩⟩))
                  go_ret
                  exact ⟨by first | rfl | (simp; done) | (simp [*]; done), by repeat (first | exact Drawn0.refl _ | apply Drawn0.step)⟩
              · rw [if_neg c14] at H
                have c14b0 : (t121 == 1401) = false := beq_eq_false_iff_ne.mpr c14
                have c14b1 : (t121 != 1401) = true := bne_iff_ne.mpr c14
                obtain rfl := Option.some.inj H
                go_enter Try.func8, Try.ntmps8
                go_wp2_with (first | ((with_reducible refine gate_callee (f := 18) rfl ?_); refine goesL_ (some 1) rfl rfl Try.func18 (by kernel_rfl) rfl #[.int .i64 1000] rfl (by (try simp only [List.map_toArray, List.map_cons, List.map_nil]); first | done | rfl | (simp only [List.length_drop, List.length_take]; rfl)) ?_; (with_reducible refine (swagelaw0_Num.calls 1000 t115 _ A1.out).mono ?_); rintro e w' ⟨rfl, ⟨nd, rfl⟩⟩; refine ⟨_, rfl, ?_⟩) | (go_at_call 18; (with_reducible refine (swagelaw0_Num.calls 1100 t116 _ A3.out).mono ?_); rintro e w' ⟨rfl, ⟨nd, rfl⟩⟩) | (go_at_call 18; (with_reducible refine (swagelaw0_Num.calls 1200 t117 _ A5.out).mono ?_); rintro e w' ⟨rfl, ⟨nd, rfl⟩⟩) | (go_at_call 18; (with_reducible refine (swagelaw0_Num.calls 1300 t118 _ A7.out).mono ?_); rintro e w' ⟨rfl, ⟨nd, rfl⟩⟩) | (go_at_call 18; (with_reducible refine (swagelaw0_Num.calls 1301 t119 _ A9.out).mono ?_); rintro e w' ⟨rfl, ⟨nd, rfl⟩⟩) | (go_at_call 18; (with_reducible refine (swagelaw0_Num.calls 1400 t120 _ A11.out).mono ?_); rintro e w' ⟨rfl, ⟨nd, rfl⟩⟩) | (go_at_call 18; (with_reducible refine (swagelaw0_Num.calls 1401 t121 _ A13.out).mono ?_); rintro e w' ⟨rfl, ⟨nd, rfl⟩⟩))
                go_ret
                exact ⟨by first | rfl | (simp; done) | (simp [*]; done), by repeat (first | exact Drawn0.refl _ | apply Drawn0.step)⟩
            · rw [if_neg c12] at H
              have c12b0 : (t120 == 1400) = false := beq_eq_false_iff_ne.mpr c12
              have c12b1 : (t120 != 1400) = true := bne_iff_ne.mpr c12
              obtain rfl := Option.some.inj H
              go_enter Try.func8, Try.ntmps8
              go_wp2_with (first | ((with_reducible refine gate_callee (f := 18) rfl ?_); refine goesL_ (some 1) rfl rfl Try.func18 (by kernel_rfl) rfl #[.int .i64 1000] rfl (by (try simp only [List.map_toArray, List.map_cons, List.map_nil]); first | done | rfl | (simp only [List.length_drop, List.length_take]; rfl)) ?_; (with_reducible refine (swagelaw0_Num.calls 1000 t115 _ A1.out).mono ?_); rintro e w' ⟨rfl, ⟨nd, rfl⟩⟩; refine ⟨_, rfl, ?_⟩) | (go_at_call 18; (with_reducible refine (swagelaw0_Num.calls 1100 t116 _ A3.out).mono ?_); rintro e w' ⟨rfl, ⟨nd, rfl⟩⟩) | (go_at_call 18; (with_reducible refine (swagelaw0_Num.calls 1200 t117 _ A5.out).mono ?_); rintro e w' ⟨rfl, ⟨nd, rfl⟩⟩) | (go_at_call 18; (with_reducible refine (swagelaw0_Num.calls 1300 t118 _ A7.out).mono ?_); rintro e w' ⟨rfl, ⟨nd, rfl⟩⟩) | (go_at_call 18; (with_reducible refine (swagelaw0_Num.calls 1301 t119 _ A9.out).mono ?_); rintro e w' ⟨rfl, ⟨nd, rfl⟩⟩) | (go_at_call 18; (with_reducible refine (swagelaw0_Num.calls 1400 t120 _ A11.out).mono ?_); rintro e w' ⟨rfl, ⟨nd, rfl⟩⟩))
              go_ret
              exact ⟨by first | rfl | (simp; done) | (simp [*]; done), by repeat (first | exact Drawn0.refl _ | apply Drawn0.step)⟩
          · rw [if_neg c10] at H
            have c10b0 : (t119 == 1301) = false := beq_eq_false_iff_ne.mpr c10
            have c10b1 : (t119 != 1301) = true := bne_iff_ne.mpr c10
            obtain rfl := Option.some.inj H
            go_enter Try.func8, Try.ntmps8
            go_wp2_with (first | ((with_reducible refine gate_callee (f := 18) rfl ?_); refine goesL_ (some 1) rfl rfl Try.func18 (by kernel_rfl) rfl #[.int .i64 1000] rfl (by (try simp only [List.map_toArray, List.map_cons, List.map_nil]); first | done | rfl | (simp only [List.length_drop, List.length_take]; rfl)) ?_; (with_reducible refine (swagelaw0_Num.calls 1000 t115 _ A1.out).mono ?_); rintro e w' ⟨rfl, ⟨nd, rfl⟩⟩; refine ⟨_, rfl, ?_⟩) | (go_at_call 18; (with_reducible refine (swagelaw0_Num.calls 1100 t116 _ A3.out).mono ?_); rintro e w' ⟨rfl, ⟨nd, rfl⟩⟩) | (go_at_call 18; (with_reducible refine (swagelaw0_Num.calls 1200 t117 _ A5.out).mono ?_); rintro e w' ⟨rfl, ⟨nd, rfl⟩⟩) | (go_at_call 18; (with_reducible refine (swagelaw0_Num.calls 1300 t118 _ A7.out).mono ?_); rintro e w' ⟨rfl, ⟨nd, rfl⟩⟩) | (go_at_call 18; (with_reducible refine (swagelaw0_Num.calls 1301 t119 _ A9.out).mono ?_); rintro e w' ⟨rfl, ⟨nd, rfl⟩⟩))
            go_ret
            exact ⟨by first | rfl | (simp; done) | (simp [*]; done), by repeat (first | exact Drawn0.refl _ | apply Drawn0.step)⟩
        · rw [if_neg c8] at H
          have c8b0 : (t118 == 1300) = false := beq_eq_false_iff_ne.mpr c8
          have c8b1 : (t118 != 1300) = true := bne_iff_ne.mpr c8
          obtain rfl := Option.some.inj H
          go_enter Try.func8, Try.ntmps8
          go_wp2_with (first | ((with_reducible refine gate_callee (f := 18) rfl ?_); refine goesL_ (some 1) rfl rfl Try.func18 (by kernel_rfl) rfl #[.int .i64 1000] rfl (by (try simp only [List.map_toArray, List.map_cons, List.map_nil]); first | done | rfl | (simp only [List.length_drop, List.length_take]; rfl)) ?_; (with_reducible refine (swagelaw0_Num.calls 1000 t115 _ A1.out).mono ?_); rintro e w' ⟨rfl, ⟨nd, rfl⟩⟩; refine ⟨_, rfl, ?_⟩) | (go_at_call 18; (with_reducible refine (swagelaw0_Num.calls 1100 t116 _ A3.out).mono ?_); rintro e w' ⟨rfl, ⟨nd, rfl⟩⟩) | (go_at_call 18; (with_reducible refine (swagelaw0_Num.calls 1200 t117 _ A5.out).mono ?_); rintro e w' ⟨rfl, ⟨nd, rfl⟩⟩) | (go_at_call 18; (with_reducible refine (swagelaw0_Num.calls 1300 t118 _ A7.out).mono ?_); rintro e w' ⟨rfl, ⟨nd, rfl⟩⟩))
          go_ret
          exact ⟨by first | rfl | (simp; done) | (simp [*]; done), by repeat (first | exact Drawn0.refl _ | apply Drawn0.step)⟩
      · rw [if_neg c6] at H
        have c6b0 : (t117 == 1200) = false := beq_eq_false_iff_ne.mpr c6
        have c6b1 : (t117 != 1200) = true := bne_iff_ne.mpr c6
        obtain rfl := Option.some.inj H
        go_enter Try.func8, Try.ntmps8
        go_wp2_with (first | ((with_reducible refine gate_callee (f := 18) rfl ?_); refine goesL_ (some 1) rfl rfl Try.func18 (by kernel_rfl) rfl #[.int .i64 1000] rfl (by (try simp only [List.map_toArray, List.map_cons, List.map_nil]); first | done | rfl | (simp only [List.length_drop, List.length_take]; rfl)) ?_; (with_reducible refine (swagelaw0_Num.calls 1000 t115 _ A1.out).mono ?_); rintro e w' ⟨rfl, ⟨nd, rfl⟩⟩; refine ⟨_, rfl, ?_⟩) | (go_at_call 18; (with_reducible refine (swagelaw0_Num.calls 1100 t116 _ A3.out).mono ?_); rintro e w' ⟨rfl, ⟨nd, rfl⟩⟩) | (go_at_call 18; (with_reducible refine (swagelaw0_Num.calls 1200 t117 _ A5.out).mono ?_); rintro e w' ⟨rfl, ⟨nd, rfl⟩⟩))
        go_ret
        exact ⟨by first | rfl | (simp; done) | (simp [*]; done), by repeat (first | exact Drawn0.refl _ | apply Drawn0.step)⟩
    · rw [if_neg c4] at H
      have c4b0 : (t116 == 1100) = false := beq_eq_false_iff_ne.mpr c4
      have c4b1 : (t116 != 1100) = true := bne_iff_ne.mpr c4
      obtain rfl := Option.some.inj H
      go_enter Try.func8, Try.ntmps8
      go_wp2_with (first | ((with_reducible refine gate_callee (f := 18) rfl ?_); refine goesL_ (some 1) rfl rfl Try.func18 (by kernel_rfl) rfl #[.int .i64 1000] rfl (by (try simp only [List.map_toArray, List.map_cons, List.map_nil]); first | done | rfl | (simp only [List.length_drop, List.length_take]; rfl)) ?_; (with_reducible refine (swagelaw0_Num.calls 1000 t115 _ A1.out).mono ?_); rintro e w' ⟨rfl, ⟨nd, rfl⟩⟩; refine ⟨_, rfl, ?_⟩) | (go_at_call 18; (with_reducible refine (swagelaw0_Num.calls 1100 t116 _ A3.out).mono ?_); rintro e w' ⟨rfl, ⟨nd, rfl⟩⟩))
      go_ret
      exact ⟨by first | rfl | (simp; done) | (simp [*]; done), by repeat (first | exact Drawn0.refl _ | apply Drawn0.step)⟩
  · rw [if_neg c2] at H
    have c2b0 : (t115 == 1000) = false := beq_eq_false_iff_ne.mpr c2
    have c2b1 : (t115 != 1000) = true := bne_iff_ne.mpr c2
    obtain rfl := Option.some.inj H
    go_enter Try.func8, Try.ntmps8
    go_wp2_with (first | ((with_reducible refine gate_callee (f := 18) rfl ?_); refine goesL_ (some 1) rfl rfl Try.func18 (by kernel_rfl) rfl #[.int .i64 1000] rfl (by (try simp only [List.map_toArray, List.map_cons, List.map_nil]); first | done | rfl | (simp only [List.length_drop, List.length_take]; rfl)) ?_; (with_reducible refine (swagelaw0_Num.calls 1000 t115 _ A1.out).mono ?_); rintro e w' ⟨rfl, ⟨nd, rfl⟩⟩; refine ⟨_, rfl, ?_⟩))
    go_ret
    exact ⟨by first | rfl | (simp; done) | (simp [*]; done), by repeat (first | exact Drawn0.refl _ | apply Drawn0.step)⟩

/-! ### swagelaw0_errors3: function 9 -/
def swagelaw0_errors3.f  : Option (Bool) := (swagelaw0_Num.f 2100).bind fun t129 => (if t129 = 2100 then ((swagelaw0_Num.f 2200).bind fun t130 => (if t130 = 2200 then ((swagelaw0_Num.f 2300).bind fun t131 => (if t131 = 2300 then ((swagelaw0_Num.f 2301).bind fun t132 => (if t132 = 2301 then ((swagelaw0_Num.f 2400).bind fun t133 => (if t133 = 2400 then ((swagelaw0_Num.f 2500).bind fun t134 => (some (t134 == 2500))) else (some false))) else (some false))) else (some false))) else (some false))) else (some false))
set_option maxHeartbeats 8000000 in
set_option maxRecDepth 100000 in
theorem swagelaw0_errors3.calls  (r : Bool) (w : World) (h : swagelaw0_errors3.f  = some r) :
    Calls Try.prog 9 #[] w fun e w' => e = .returned (.bool r) ∧ Drawn0 w w' := by
  have H : ((swagelaw0_Num.f 2100).bind fun t129 => (if t129 = 2100 then ((swagelaw0_Num.f 2200).bind fun t130 => (if t130 = 2200 then ((swagelaw0_Num.f 2300).bind fun t131 => (if t131 = 2300 then ((swagelaw0_Num.f 2301).bind fun t132 => (if t132 = 2301 then ((swagelaw0_Num.f 2400).bind fun t133 => (if t133 = 2400 then ((swagelaw0_Num.f 2500).bind fun t134 => (some (t134 == 2500))) else (some false))) else (some false))) else (some false))) else (some false))) else (some false))) = some r := h
  clear h
  replace H := Option.bind_eq_some_iff.mp H
  obtain ⟨t129, A10, H⟩ := H
  replace H : (if t129 = 2100 then ((swagelaw0_Num.f 2200).bind fun t130 => (if t130 = 2200 then ((swagelaw0_Num.f 2300).bind fun t131 => (if t131 = 2300 then ((swagelaw0_Num.f 2301).bind fun t132 => (if t132 = 2301 then ((swagelaw0_Num.f 2400).bind fun t133 => (if t133 = 2400 then ((swagelaw0_Num.f 2500).bind fun t134 => (some (t134 == 2500))) else (some false))) else (some false))) else (some false))) else (some false))) else (some false)) = some r := H
  have A1 := Aside0.mk A10
  clear A10
  by_cases c2 : t129 = 2100
  · rw [if_pos c2] at H
    have c2b0 : (t129 == 2100) = true := beq_iff_eq.mpr c2
    have c2b1 : (t129 != 2100) = false := bne_eq_false_iff_eq.mpr c2
    clear c2
    replace H := Option.bind_eq_some_iff.mp H
    obtain ⟨t130, A30, H⟩ := H
    replace H : (if t130 = 2200 then ((swagelaw0_Num.f 2300).bind fun t131 => (if t131 = 2300 then ((swagelaw0_Num.f 2301).bind fun t132 => (if t132 = 2301 then ((swagelaw0_Num.f 2400).bind fun t133 => (if t133 = 2400 then ((swagelaw0_Num.f 2500).bind fun t134 => (some (t134 == 2500))) else (some false))) else (some false))) else (some false))) else (some false)) = some r := H
    have A3 := Aside0.mk A30
    clear A30
    by_cases c4 : t130 = 2200
    · rw [if_pos c4] at H
      have c4b0 : (t130 == 2200) = true := beq_iff_eq.mpr c4
      have c4b1 : (t130 != 2200) = false := bne_eq_false_iff_eq.mpr c4
      clear c4
      replace H := Option.bind_eq_some_iff.mp H
      obtain ⟨t131, A50, H⟩ := H
      replace H : (if t131 = 2300 then ((swagelaw0_Num.f 2301).bind fun t132 => (if t132 = 2301 then ((swagelaw0_Num.f 2400).bind fun t133 => (if t133 = 2400 then ((swagelaw0_Num.f 2500).bind fun t134 => (some (t134 == 2500))) else (some false))) else (some false))) else (some false)) = some r := H
      have A5 := Aside0.mk A50
      clear A50
      by_cases c6 : t131 = 2300
      · rw [if_pos c6] at H
        have c6b0 : (t131 == 2300) = true := beq_iff_eq.mpr c6
        have c6b1 : (t131 != 2300) = false := bne_eq_false_iff_eq.mpr c6
        clear c6
        replace H := Option.bind_eq_some_iff.mp H
        obtain ⟨t132, A70, H⟩ := H
        replace H : (if t132 = 2301 then ((swagelaw0_Num.f 2400).bind fun t133 => (if t133 = 2400 then ((swagelaw0_Num.f 2500).bind fun t134 => (some (t134 == 2500))) else (some false))) else (some false)) = some r := H
        have A7 := Aside0.mk A70
        clear A70
        by_cases c8 : t132 = 2301
        · rw [if_pos c8] at H
          have c8b0 : (t132 == 2301) = true := beq_iff_eq.mpr c8
          have c8b1 : (t132 != 2301) = false := bne_eq_false_iff_eq.mpr c8
          clear c8
          replace H := Option.bind_eq_some_iff.mp H
          obtain ⟨t133, A90, H⟩ := H
          replace H : (if t133 = 2400 then ((swagelaw0_Num.f 2500).bind fun t134 => (some (t134 == 2500))) else (some false)) = some r := H
          have A9 := Aside0.mk A90
          clear A90
          by_cases c10 : t133 = 2400
          · rw [if_pos c10] at H
            have c10b0 : (t133 == 2400) = true := beq_iff_eq.mpr c10
            have c10b1 : (t133 != 2400) = false := bne_eq_false_iff_eq.mpr c10
            clear c10
            replace H := Option.bind_eq_some_iff.mp H
            obtain ⟨t134, A110, H⟩ := H
            replace H : (some (t134 == 2500)) = some r := H
            have A11 := Aside0.mk A110
            clear A110
            obtain rfl := Option.some.inj H
            go_enter Try.func9, Try.ntmps9
            go_wp2_with (first | ((with_reducible refine gate_callee (f := 18) rfl ?_); refine goesL_ (some 1) rfl rfl Try.func18 (by kernel_rfl) rfl #[.int .i64 2100] rfl (by (try simp only [List.map_toArray, List.map_cons, List.map_nil]); first | done | rfl | (simp only [List.length_drop, List.length_take]; rfl)) ?_; (with_reducible refine (swagelaw0_Num.calls 2100 t129 _ A1.out).mono ?_); rintro e w' ⟨rfl, ⟨nd, rfl⟩⟩; refine ⟨_, rfl, ?_⟩) | (go_at_call 18; (with_reducible refine (swagelaw0_Num.calls 2200 t130 _ A3.out).mono ?_); rintro e w' ⟨rfl, ⟨nd, rfl⟩⟩) | (go_at_call 18; (with_reducible refine (swagelaw0_Num.calls 2300 t131 _ A5.out).mono ?_); rintro e w' ⟨rfl, ⟨nd, rfl⟩⟩) | (go_at_call 18; (with_reducible refine (swagelaw0_Num.calls 2301 t132 _ A7.out).mono ?_); rintro e w' ⟨rfl, ⟨nd, rfl⟩⟩) | (go_at_call 18; (with_reducible refine (swagelaw0_Num.calls 2400 t133 _ A9.out).mono ?_); rintro e w' ⟨rfl, ⟨nd, rfl⟩⟩) | (go_at_call 18; (with_reducible refine (swagelaw0_Num.calls 2500 t134 _ A11.out).mono ?_); rintro e w' ⟨rfl, ⟨nd, rfl⟩⟩))
            go_ret
            exact ⟨by first | rfl | (simp; done) | (simp [*]; done), by repeat (first | exact Drawn0.refl _ | apply Drawn0.step)⟩
          · rw [if_neg c10] at H
            have c10b0 : (t133 == 2400) = false := beq_eq_false_iff_ne.mpr c10
            have c10b1 : (t133 != 2400) = true := bne_iff_ne.mpr c10
            obtain rfl := Option.some.inj H
            go_enter Try.func9, Try.ntmps9
            go_wp2_with (first | ((with_reducible refine gate_callee (f := 18) rfl ?_); refine goesL_ (some 1) rfl rfl Try.func18 (by kernel_rfl) rfl #[.int .i64 2100] rfl (by (try simp only [List.map_toArray, List.map_cons, List.map_nil]); first | done | rfl | (simp only [List.length_drop, List.length_take]; rfl)) ?_; (with_reducible refine (swagelaw0_Num.calls 2100 t129 _ A1.out).mono ?_); rintro e w' ⟨rfl, ⟨nd, rfl⟩⟩; refine ⟨_, rfl, ?_⟩) | (go_at_call 18; (with_reducible refine (swagelaw0_Num.calls 2200 t130 _ A3.out).mono ?_); rintro e w' ⟨rfl, ⟨nd, rfl⟩⟩) | (go_at_call 18; (with_reducible refine (swagelaw0_Num.calls 2300 t131 _ A5.out).mono ?_); rintro e w' ⟨rfl, ⟨nd, rfl⟩⟩) | (go_at_call 18; (with_reducible refine (swagelaw0_Num.calls 2301 t132 _ A7.out).mono ?_); rintro e w' ⟨rfl, ⟨nd, rfl⟩⟩) | (go_at_call 18; (with_reducible refine (swagelaw0_Num.calls 2400 t133 _ A9.out).mono ?_); rintro e w' ⟨rfl, ⟨nd, rfl⟩⟩))
            go_ret
            exact ⟨by first | rfl | (simp; done) | (simp [*]; done), by repeat (first | exact Drawn0.refl _ | apply Drawn0.step)⟩
        · rw [if_neg c8] at H
          have c8b0 : (t132 == 2301) = false := beq_eq_false_iff_ne.mpr c8
          have c8b1 : (t132 != 2301) = true := bne_iff_ne.mpr c8
          obtain rfl := Option.some.inj H
          go_enter Try.func9, Try.ntmps9
          go_wp2_with (first | ((with_reducible refine gate_callee (f := 18) rfl ?_); refine goesL_ (some 1) rfl rfl Try.func18 (by kernel_rfl) rfl #[.int .i64 2100] rfl (by (try simp only [List.map_toArray, List.map_cons, List.map_nil]); first | done | rfl | (simp only [List.length_drop, List.length_take]; rfl)) ?_; (with_reducible refine (swagelaw0_Num.calls 2100 t129 _ A1.out).mono ?_); rintro e w' ⟨rfl, ⟨nd, rfl⟩⟩; refine ⟨_, rfl, ?_⟩) | (go_at_call 18; (with_reducible refine (swagelaw0_Num.calls 2200 t130 _ A3.out).mono ?_); rintro e w' ⟨rfl, ⟨nd, rfl⟩⟩) | (go_at_call 18; (with_reducible refine (swagelaw0_Num.calls 2300 t131 _ A5.out).mono ?_); rintro e w' ⟨rfl, ⟨nd, rfl⟩⟩) | (go_at_call 18; (with_reducible refine (swagelaw0_Num.calls 2301 t132 _ A7.out).mono ?_); rintro e w' ⟨rfl, ⟨nd, rfl⟩⟩))
          go_ret
          exact ⟨by first | rfl | (simp; done) | (simp [*]; done), by repeat (first | exact Drawn0.refl _ | apply Drawn0.step)⟩
      · rw [if_neg c6] at H
        have c6b0 : (t131 == 2300) = false := beq_eq_false_iff_ne.mpr c6
        have c6b1 : (t131 != 2300) = true := bne_iff_ne.mpr c6
        obtain rfl := Option.some.inj H
        go_enter Try.func9, Try.ntmps9
        go_wp2_with (first | ((with_reducible refine gate_callee (f := 18) rfl ?_); refine goesL_ (some 1) rfl rfl Try.func18 (by kernel_rfl) rfl #[.int .i64 2100] rfl (by (try simp only [List.map_toArray, List.map_cons, List.map_nil]); first | done | rfl | (simp only [List.length_drop, List.length_take]; rfl)) ?_; (with_reducible refine (swagelaw0_Num.calls 2100 t129 _ A1.out).mono ?_); rintro e w' ⟨rfl, ⟨nd, rfl⟩⟩; refine ⟨_, rfl, ?_⟩) | (go_at_call 18; (with_reducible refine (swagelaw0_Num.calls 2200 t130 _ A3.out).mono ?_); rintro e w' ⟨rfl, ⟨nd, rfl⟩⟩) | (go_at_call 18; (with_reducible refine (swagelaw0_Num.calls 2300 t131 _ A5.out).mono ?_); rintro e w' ⟨rfl, ⟨nd, rfl⟩⟩))
        go_ret
        exact ⟨by first | rfl | (simp; done) | (simp [*]; done), by repeat (first | exact Drawn0.refl _ | apply Drawn0.step)⟩
    · rw [if_neg c4] at H
      have c4b0 : (t130 == 2200) = false := beq_eq_false_iff_ne.mpr c4
      have c4b1 : (t130 != 2200) = true := bne_iff_ne.mpr c4
      obtain rfl := Option.some.inj H
      go_enter Try.func9, Try.ntmps9
      go_wp2_with (first | ((with_reducible refine gate_callee (f := 18) rfl ?_); refine goesL_ (some 1) rfl rfl Try.func18 (by kernel_rfl) rfl #[.int .i64 2100] rfl (by (try simp only [List.map_toArray, List.map_cons, List.map_nil]); first | done | rfl | (simp only [List.length_drop, List.length_take]; rfl)) ?_; (with_reducible refine (swagelaw0_Num.calls 2100 t129 _ A1.out).mono ?_); rintro e w' ⟨rfl, ⟨nd, rfl⟩⟩; refine ⟨_, rfl, ?_⟩) | (go_at_call 18; (with_reducible refine (swagelaw0_Num.calls 2200 t130 _ A3.out).mono ?_); rintro e w' ⟨rfl, ⟨nd, rfl⟩⟩))
      go_ret
      exact ⟨by first | rfl | (simp; done) | (simp [*]; done), by repeat (first | exact Drawn0.refl _ | apply Drawn0.step)⟩
  · rw [if_neg c2] at H
    have c2b0 : (t129 == 2100) = false := beq_eq_false_iff_ne.mpr c2
    have c2b1 : (t129 != 2100) = true := bne_iff_ne.mpr c2
    obtain rfl := Option.some.inj H
    go_enter Try.func9, Try.ntmps9
    go_wp2_with (first | ((with_reducible refine gate_callee (f := 18) rfl ?_); refine goesL_ (some 1) rfl rfl Try.func18 (by kernel_rfl) rfl #[.int .i64 2100] rfl (by (try simp only [List.map_toArray, List.map_cons, List.map_nil]); first | done | rfl | (simp only [List.length_drop, List.length_take]; rfl)) ?_; (with_reducible refine (swagelaw0_Num.calls 2100 t129 _ A1.out).mono ?_); rintro e w' ⟨rfl, ⟨nd, rfl⟩⟩; refine ⟨_, rfl, ?_⟩))
    go_ret
    exact ⟨by first | rfl | (simp; done) | (simp [*]; done), by repeat (first | exact Drawn0.refl _ | apply Drawn0.step)⟩

/-! ### swagelaw0_numbers1: function 10 -/
def swagelaw0_numbers1.f  : Option (Bool) := some true
set_option maxHeartbeats 8000000 in
set_option maxRecDepth 100000 in
theorem swagelaw0_numbers1.calls  (r : Bool) (w : World) (h : swagelaw0_numbers1.f  = some r) :
    Calls Try.prog 10 #[] w fun e w' => e = .returned (.bool r) ∧ Drawn0 w w' := by
  have H : (some true) = some r := h
  clear h
  obtain rfl := Option.some.inj H
  go_enter Try.func10, Try.ntmps10
  go_wp2
  go_ret
  exact ⟨by first | rfl | (simp; done) | (simp [*]; done), by repeat (first | exact Drawn0.refl _ | apply Drawn0.step)⟩

/-! ### swagelaw0_numbers2: function 11 -/
def swagelaw0_numbers2.f  : Option (Bool) := some true
set_option maxHeartbeats 8000000 in
set_option maxRecDepth 100000 in
theorem swagelaw0_numbers2.calls  (r : Bool) (w : World) (h : swagelaw0_numbers2.f  = some r) :
    Calls Try.prog 11 #[] w fun e w' => e = .returned (.bool r) ∧ Drawn0 w w' := by
  have H : (some true) = some r := h
  clear h
  obtain rfl := Option.some.inj H
  go_enter Try.func11, Try.ntmps11
  go_wp2
  go_ret
  exact ⟨by first | rfl | (simp; done) | (simp [*]; done), by repeat (first | exact Drawn0.refl _ | apply Drawn0.step)⟩

/-! ### swagelaw0_numbers3: function 12 -/
def swagelaw0_numbers3.f  : Option (Bool) := some true
set_option maxHeartbeats 8000000 in
set_option maxRecDepth 100000 in
theorem swagelaw0_numbers3.calls  (r : Bool) (w : World) (h : swagelaw0_numbers3.f  = some r) :
    Calls Try.prog 12 #[] w fun e w' => e = .returned (.bool r) ∧ Drawn0 w w' := by
  have H : (some true) = some r := h
  clear h
  obtain rfl := Option.some.inj H
  go_enter Try.func12, Try.ntmps12
  go_wp2
  go_ret
  exact ⟨by first | rfl | (simp; done) | (simp [*]; done), by repeat (first | exact Drawn0.refl _ | apply Drawn0.step)⟩

/-! ### swagelaw0_numbers4: function 13 -/
def swagelaw0_numbers4.f  : Option (Bool) := some true
set_option maxHeartbeats 8000000 in
set_option maxRecDepth 100000 in
theorem swagelaw0_numbers4.calls  (r : Bool) (w : World) (h : swagelaw0_numbers4.f  = some r) :
    Calls Try.prog 13 #[] w fun e w' => e = .returned (.bool r) ∧ Drawn0 w w' := by
  have H : (some true) = some r := h
  clear h
  obtain rfl := Option.some.inj H
  go_enter Try.func13, Try.ntmps13
  go_wp2
  go_ret
  exact ⟨by first | rfl | (simp; done) | (simp [*]; done), by repeat (first | exact Drawn0.refl _ | apply Drawn0.step)⟩

/-! ### swagelaw0_numbers5: function 14 -/
def swagelaw0_numbers5.f  : Option (Bool) := some true
set_option maxHeartbeats 8000000 in
set_option maxRecDepth 100000 in
theorem swagelaw0_numbers5.calls  (r : Bool) (w : World) (h : swagelaw0_numbers5.f  = some r) :
    Calls Try.prog 14 #[] w fun e w' => e = .returned (.bool r) ∧ Drawn0 w w' := by
  have H : (some true) = some r := h
  clear h
  obtain rfl := Option.some.inj H
  go_enter Try.func14, Try.ntmps14
  go_wp2
  go_ret
  exact ⟨by first | rfl | (simp; done) | (simp [*]; done), by repeat (first | exact Drawn0.refl _ | apply Drawn0.step)⟩

/-! ### swagelaw0_numbers6: function 15 -/
def swagelaw0_numbers6.f  : Option (Bool) := some true
set_option maxHeartbeats 8000000 in
set_option maxRecDepth 100000 in
theorem swagelaw0_numbers6.calls  (r : Bool) (w : World) (h : swagelaw0_numbers6.f  = some r) :
    Calls Try.prog 15 #[] w fun e w' => e = .returned (.bool r) ∧ Drawn0 w w' := by
  have H : (some true) = some r := h
  clear h
  obtain rfl := Option.some.inj H
  go_enter Try.func15, Try.ntmps15
  go_wp2
  go_ret
  exact ⟨by first | rfl | (simp; done) | (simp [*]; done), by repeat (first | exact Drawn0.refl _ | apply Drawn0.step)⟩

end Go.Proofs.Ytmkdikbjolobdaa.PSwageNames
