-- PRINTED BY print.sh 35421559b90ae4d0a3588c463048766b98c2df88dd9212a6774a882060cdf62d: not written by this session
import Derived.Test.YtdhkopangbgehaaPReduceReckonsx0
namespace Go.Proofs.Ytdhkopangbgehaa.PReduceReckons
open Go.RowKit Go.Proofs.YtdhkopangbgehaaW.PrintWords Go.Proofs.YtdhkopangbgehaaW.PrintLast Go.Proofs.YtdhkopangbgehaaW.PrintMore
attribute [local go_sem] max2_int min2_int max_two min_two max_three min_three max_four min_four   -- for this text's walks alone
set_option linter.unusedVariables false
set_option linter.unusedSimpArgs false

/-! ### reduce_Do: function 15 -/
def reduce_Do.f (a0 : ByteArray) (a1 : Int) (a2 : Int) : Option (Int × Bool × Bool × Int) := if a0.toList = ([43] : List UInt8) then (some (wrap64 (a1 + a2), false, false, 0)) else (if a0.toList = ([45] : List UInt8) then (some (wrap64 (a1 - a2), false, false, 0)) else (if a0.toList = ([42] : List UInt8) then (some (wrap64 (a1 * a2), false, false, 0)) else (if a0.toList = ([47] : List UInt8) then (if a2 = 0 then (some (0, false, false, 182)) else (some (wrap64 (Int.tdiv a1 a2), false, false, 0))) else (if a0.toList = ([60] : List UInt8) then (some (0, decide (a1 < a2), true, 0)) else (if a0.toList = ([61] : List UInt8) then (some (0, (a1 == a2), true, 0)) else (some (0, false, false, 2)))))))
set_option maxHeartbeats 8000000 in
set_option maxRecDepth 100000 in
theorem reduce_Do.calls (a0 : ByteArray) (a1 : Int) (a2 : Int) (r1 : Int) (r2 : Bool) (r3 : Bool) (r4 : Int) (w : World) (h : reduce_Do.f a0 a1 a2 = some (r1, r2, r3, r4)) :
    Calls Try.prog 15 #[.string a0, .int .i64 a1, .int .i64 a2] w fun e w' => e = .returned (.tuple #[.int .i64 r1, .bool r2, .bool r3, .int .i64 r4]) ∧ Drawn0 w w' := by
  have H : (if a0.toList = ([43] : List UInt8) then (some (wrap64 (a1 + a2), false, false, 0)) else (if a0.toList = ([45] : List UInt8) then (some (wrap64 (a1 - a2), false, false, 0)) else (if a0.toList = ([42] : List UInt8) then (some (wrap64 (a1 * a2), false, false, 0)) else (if a0.toList = ([47] : List UInt8) then (if a2 = 0 then (some (0, false, false, 182)) else (some (wrap64 (Int.tdiv a1 a2), false, false, 0))) else (if a0.toList = ([60] : List UInt8) then (some (0, decide (a1 < a2), true, 0)) else (if a0.toList = ([61] : List UInt8) then (some (0, (a1 == a2), true, 0)) else (some (0, false, false, 2)))))))) = some (r1, r2, r3, r4) := h
  clear h
  by_cases c4 : a0.toList = ([43] : List UInt8)
  · rw [if_pos c4] at H
    have c4b0 : (a0.toList == ([43] : List UInt8)) = true := beq_iff_eq.mpr c4
    have c4b1 : (a0.toList != ([43] : List UInt8)) = false := bne_eq_false_iff_eq.mpr c4
    clear c4
    simp only [Option.some.injEq, Prod.mk.injEq] at H
    obtain ⟨rfl, rfl, rfl, rfl⟩ := H
    go_enter Try.func15, Try.ntmps15
    go_wp2
    refine bodyPost_ret (results_list (rs := [.tmp 6, .tmp 7, .tmp 8, .tmp 9]) rfl (by simp) (.tmp (.tmp (.tmp (.tmp .nil))))) rfl ?_
    exact ⟨by first | rfl | (simp; done) | (simp [*]; done), by repeat (first | exact Drawn0.refl _ | apply Drawn0.step)⟩
  · rw [if_neg c4] at H
    have c4b0 : (a0.toList == ([43] : List UInt8)) = false := beq_eq_false_iff_ne.mpr c4
    have c4b1 : (a0.toList != ([43] : List UInt8)) = true := bne_iff_ne.mpr c4
    by_cases c5 : a0.toList = ([45] : List UInt8)
    · rw [if_pos c5] at H
      have c5b0 : (a0.toList == ([45] : List UInt8)) = true := beq_iff_eq.mpr c5
      have c5b1 : (a0.toList != ([45] : List UInt8)) = false := bne_eq_false_iff_eq.mpr c5
      clear c5
      simp only [Option.some.injEq, Prod.mk.injEq] at H
      obtain ⟨rfl, rfl, rfl, rfl⟩ := H
      go_enter Try.func15, Try.ntmps15
      go_wp2
      refine bodyPost_ret (results_list (rs := [.tmp 6, .tmp 7, .tmp 8, .tmp 9]) rfl (by simp) (.tmp (.tmp (.tmp (.tmp .nil))))) rfl ?_
      exact ⟨by first | rfl | (simp; done) | (simp [*]; done), by repeat (first | exact Drawn0.refl _ | apply Drawn0.step)⟩
    · rw [if_neg c5] at H
      have c5b0 : (a0.toList == ([45] : List UInt8)) = false := beq_eq_false_iff_ne.mpr c5
      have c5b1 : (a0.toList != ([45] : List UInt8)) = true := bne_iff_ne.mpr c5
      by_cases c6 : a0.toList = ([42] : List UInt8)
      · rw [if_pos c6] at H
        have c6b0 : (a0.toList == ([42] : List UInt8)) = true := beq_iff_eq.mpr c6
        have c6b1 : (a0.toList != ([42] : List UInt8)) = false := bne_eq_false_iff_eq.mpr c6
        clear c6
        simp only [Option.some.injEq, Prod.mk.injEq] at H
        obtain ⟨rfl, rfl, rfl, rfl⟩ := H
        go_enter Try.func15, Try.ntmps15
        go_wp2
        refine bodyPost_ret (results_list (rs := [.tmp 6, .tmp 7, .tmp 8, .tmp 9]) rfl (by simp) (.tmp (.tmp (.tmp (.tmp .nil))))) rfl ?_
        exact ⟨by first | rfl | (simp; done) | (simp [*]; done), by repeat (first | exact Drawn0.refl _ | apply Drawn0.step)⟩
      · rw [if_neg c6] at H
        have c6b0 : (a0.toList == ([42] : List UInt8)) = false := beq_eq_false_iff_ne.mpr c6
        have c6b1 : (a0.toList != ([42] : List UInt8)) = true := bne_iff_ne.mpr c6
        by_cases c7 : a0.toList = ([47] : List UInt8)
        · rw [if_pos c7] at H
          have c7b0 : (a0.toList == ([47] : List UInt8)) = true := beq_iff_eq.mpr c7
          have c7b1 : (a0.toList != ([47] : List UInt8)) = false := bne_eq_false_iff_eq.mpr c7
          clear c7
          by_cases c8 : a2 = 0
          · rw [if_pos c8] at H
            have c8b0 : (a2 == 0) = true := beq_iff_eq.mpr c8
            have c8b1 : (a2 != 0) = false := bne_eq_false_iff_eq.mpr c8
            clear c8
            simp only [Option.some.injEq, Prod.mk.injEq] at H
            obtain ⟨rfl, rfl, rfl, rfl⟩ := H
            go_enter Try.func15, Try.ntmps15
            go_wp2
            refine bodyPost_ret (results_list (rs := [.tmp 6, .tmp 7, .tmp 8, .tmp 9]) rfl (by simp) (.tmp (.tmp (.tmp (.tmp .nil))))) rfl ?_
            exact ⟨by first | rfl | (simp; done) | (simp [*]; done), by repeat (first | exact Drawn0.refl _ | apply Drawn0.step)⟩
          · rw [if_neg c8] at H
            have c8b0 : (a2 == 0) = false := beq_eq_false_iff_ne.mpr c8
            have c8b1 : (a2 != 0) = true := bne_iff_ne.mpr c8
            simp only [Option.some.injEq, Prod.mk.injEq] at H
            obtain ⟨rfl, rfl, rfl, rfl⟩ := H
            go_enter Try.func15, Try.ntmps15
            go_wp2
            refine bodyPost_ret (results_list (rs := [.tmp 6, .tmp 7, .tmp 8, .tmp 9]) rfl (by simp) (.tmp (.tmp (.tmp (.tmp .nil))))) rfl ?_
            exact ⟨by first | rfl | (simp; done) | (simp [*]; done), by repeat (first | exact Drawn0.refl _ | apply Drawn0.step)⟩
        · rw [if_neg c7] at H
          have c7b0 : (a0.toList == ([47] : List UInt8)) = false := beq_eq_false_iff_ne.mpr c7
          have c7b1 : (a0.toList != ([47] : List UInt8)) = true := bne_iff_ne.mpr c7
          by_cases c9 : a0.toList = ([60] : List UInt8)
          · rw [if_pos c9] at H
            have c9b0 : (a0.toList == ([60] : List UInt8)) = true := beq_iff_eq.mpr c9
            have c9b1 : (a0.toList != ([60] : List UInt8)) = false := bne_eq_false_iff_eq.mpr c9
            clear c9
            simp only [Option.some.injEq, Prod.mk.injEq] at H
            obtain ⟨rfl, rfl, rfl, rfl⟩ := H
            go_enter Try.func15, Try.ntmps15
            go_wp2
            refine bodyPost_ret (results_list (rs := [.tmp 6, .tmp 7, .tmp 8, .tmp 9]) rfl (by simp) (.tmp (.tmp (.tmp (.tmp .nil))))) rfl ?_
            exact ⟨by first | rfl | (simp; done) | (simp [*]; done), by repeat (first | exact Drawn0.refl _ | apply Drawn0.step)⟩
          · rw [if_neg c9] at H
            have c9b0 : (a0.toList == ([60] : List UInt8)) = false := beq_eq_false_iff_ne.mpr c9
            have c9b1 : (a0.toList != ([60] : List UInt8)) = true := bne_iff_ne.mpr c9
            by_cases c10 : a0.toList = ([61] : List UInt8)
            · rw [if_pos c10] at H
              have c10b0 : (a0.toList == ([61] : List UInt8)) = true := beq_iff_eq.mpr c10
              have c10b1 : (a0.toList != ([61] : List UInt8)) = false := bne_eq_false_iff_eq.mpr c10
              clear c10
              simp only [Option.some.injEq, Prod.mk.injEq] at H
              obtain ⟨rfl, rfl, rfl, rfl⟩ := H
              go_enter Try.func15, Try.ntmps15
              go_wp2
              refine bodyPost_ret (results_list (rs := [.tmp 6, .tmp 7, .tmp 8, .tmp 9]) rfl (by simp) (.tmp (.tmp (.tmp (.tmp .nil))))) rfl ?_
              exact ⟨by first | rfl | (simp; done) | (simp [*]; done), by repeat (first | exact Drawn0.refl _ | apply Drawn0.step)⟩
            · rw [if_neg c10] at H
              have c10b0 : (a0.toList == ([61] : List UInt8)) = false := beq_eq_false_iff_ne.mpr c10
              have c10b1 : (a0.toList != ([61] : List UInt8)) = true := bne_iff_ne.mpr c10
              simp only [Option.some.injEq, Prod.mk.injEq] at H
              obtain ⟨rfl, rfl, rfl, rfl⟩ := H
              go_enter Try.func15, Try.ntmps15
              go_wp2
              refine bodyPost_ret (results_list (rs := [.tmp 6, .tmp 7, .tmp 8, .tmp 9]) rfl (by simp) (.tmp (.tmp (.tmp (.tmp .nil))))) rfl ?_
              exact ⟨by first | rfl | (simp; done) | (simp [*]; done), by repeat (first | exact Drawn0.refl _ | apply Drawn0.step)⟩

/-! ### lychgatelaw17_ReduceReckons: function 4 -/
def lychgatelaw17_ReduceReckons.j0 : Nat → Int → Int → Int → Int → Bool → Option (Bool)
  | 0, _, _, _, _, _ => none
  | k + 1, x0, x1, x5, x21, x100 => if x100 = true then (some false) else ((reduce_Do.f (⟨#[45]⟩ : ByteArray) x5 x1).bind fun bt121 => (if x1 = 0 then (if bt121.1 = x0 then (some (x21 == 0)) else (some false)) else (if bt121.1 = x0 then (if (wrap64 (x0 - (wrap64 (x21 * x1)))) = 0 then (some true) else (if ((decide ((wrap64 (x0 - (wrap64 (x21 * x1)))) < 0)) == (decide (x0 < 0))) = true then (if (wrap64 (x0 - (wrap64 (x21 * x1)))) > (wrap64 (-x1)) then (if (wrap64 (x0 - (wrap64 (x21 * x1)))) < x1 then (some true) else (if x1 < 0 then (if x1 = (-9223372036854775808) then (some true) else (some (decide ((wrap64 (x0 - (wrap64 (x21 * x1)))) < (wrap64 (-x1)))))) else (some false))) else (if x1 < 0 then (if (wrap64 (x0 - (wrap64 (x21 * x1)))) > x1 then (if (wrap64 (x0 - (wrap64 (x21 * x1)))) < x1 then (some true) else (if x1 = (-9223372036854775808) then (some true) else (some (decide ((wrap64 (x0 - (wrap64 (x21 * x1)))) < (wrap64 (-x1))))))) else (if x1 = (-9223372036854775808) then (if (wrap64 (x0 - (wrap64 (x21 * x1)))) < x1 then (some true) else (some true)) else (some false))) else (if x1 = (-9223372036854775808) then (if (wrap64 (x0 - (wrap64 (x21 * x1)))) < x1 then (some true) else (some false)) else (some false)))) else (some false))) else (some false))))
def lychgatelaw17_ReduceReckons.f (k : Nat) (a0 : Int) (a1 : Int) : Option (Bool) := (reduce_Do.f (⟨#[43]⟩ : ByteArray) a0 a1).bind fun bt101 => ((reduce_Do.f (⟨#[43]⟩ : ByteArray) a1 a0).bind fun bt105 => ((reduce_Do.f (⟨#[42]⟩ : ByteArray) a0 a1).bind fun bt109 => ((reduce_Do.f (⟨#[42]⟩ : ByteArray) a1 a0).bind fun bt113 => ((reduce_Do.f (⟨#[47]⟩ : ByteArray) a0 a1).bind fun bt117 => (if bt101.2.2.2 = 0 then (if bt105.2.2.2 = 0 then (if bt109.2.2.2 = 0 then (if bt113.2.2.2 = 0 then (if bt101.1 = bt105.1 then (if bt109.1 = bt113.1 then (lychgatelaw17_ReduceReckons.j0 k a0 a1 bt101.1 bt117.1 ((bt117.2.2.2 == 182) != (a1 == 0))) else (lychgatelaw17_ReduceReckons.j0 k a0 a1 bt101.1 bt117.1 true)) else (lychgatelaw17_ReduceReckons.j0 k a0 a1 bt101.1 bt117.1 true)) else (lychgatelaw17_ReduceReckons.j0 k a0 a1 bt101.1 bt117.1 true)) else (lychgatelaw17_ReduceReckons.j0 k a0 a1 bt101.1 bt117.1 true)) else (lychgatelaw17_ReduceReckons.j0 k a0 a1 bt101.1 bt117.1 true)) else (lychgatelaw17_ReduceReckons.j0 k a0 a1 bt101.1 bt117.1 true))))))
theorem lychgatelaw17_ReduceReckons.mono_l : ∀ k, (∀ y0 y1 y2 y3 y4, LeO (lychgatelaw17_ReduceReckons.j0 k y0 y1 y2 y3 y4) (lychgatelaw17_ReduceReckons.j0 (k + 1) y0 y1 y2 y3 y4))
  | 0 => fun _ _ _ _ _ r h => by simp [lychgatelaw17_ReduceReckons.j0] at h
  | k + 1 => by
    have ih0 := lychgatelaw17_ReduceReckons.mono_l k
    · intro y0 y1 y2 y3 y4
      unfold lychgatelaw17_ReduceReckons.j0
      repeat' first
      | (with_reducible exact ih0 _ _ _ _ _)
      | (with_reducible exact LeO.refl _)
      | (with_reducible exact LeO.none _)
      | (with_reducible refine LeO.ite ?_ ?_)
      | (with_reducible refine LeO.bind ?_ (fun _ => ?_))
      | exact ih0 _ _ _ _ _
      | exact LeO.none _
      | refine LeO.ite ?_ ?_
      | refine LeO.bind ?_ (fun _ => ?_)
theorem lychgatelaw17_ReduceReckons.mono : ∀ a0 a1 k, LeO (lychgatelaw17_ReduceReckons.f k a0 a1) (lychgatelaw17_ReduceReckons.f (k + 1) a0 a1) := by
  intro a0 a1 k
  have ih0 := lychgatelaw17_ReduceReckons.mono_l k
  unfold lychgatelaw17_ReduceReckons.f
  repeat' first
      | (with_reducible exact ih0 _ _ _ _ _)
      | (with_reducible exact LeO.refl _)
      | (with_reducible exact LeO.none _)
      | (with_reducible refine LeO.ite ?_ ?_)
      | (with_reducible refine LeO.bind ?_ (fun _ => ?_))
      | exact ih0 _ _ _ _ _
      | exact LeO.none _
      | refine LeO.ite ?_ ?_
      | refine LeO.bind ?_ (fun _ => ?_)
set_option maxHeartbeats 8000000 in
set_option maxRecDepth 100000 in
theorem lychgatelaw17_ReduceReckons.calls (k : Nat) (a0 : Int) (a1 : Int) (r : Bool) (w : World) (h : lychgatelaw17_ReduceReckons.f k a0 a1 = some r) :
    Calls Try.prog 4 #[.int .i64 a0, .int .i64 a1] w fun e w' => e = .returned (.bool r) ∧ Drawn0 w w' := by
  have H : ((reduce_Do.f (⟨#[43]⟩ : ByteArray) a0 a1).bind fun bt101 => ((reduce_Do.f (⟨#[43]⟩ : ByteArray) a1 a0).bind fun bt105 => ((reduce_Do.f (⟨#[42]⟩ : ByteArray) a0 a1).bind fun bt109 => ((reduce_Do.f (⟨#[42]⟩ : ByteArray) a1 a0).bind fun bt113 => ((reduce_Do.f (⟨#[47]⟩ : ByteArray) a0 a1).bind fun bt117 => (if bt101.2.2.2 = 0 then (if bt105.2.2.2 = 0 then (if bt109.2.2.2 = 0 then (if bt113.2.2.2 = 0 then (if bt101.1 = bt105.1 then (if bt109.1 = bt113.1 then (lychgatelaw17_ReduceReckons.j0 k a0 a1 bt101.1 bt117.1 ((bt117.2.2.2 == 182) != (a1 == 0))) else (lychgatelaw17_ReduceReckons.j0 k a0 a1 bt101.1 bt117.1 true)) else (lychgatelaw17_ReduceReckons.j0 k a0 a1 bt101.1 bt117.1 true)) else (lychgatelaw17_ReduceReckons.j0 k a0 a1 bt101.1 bt117.1 true)) else (lychgatelaw17_ReduceReckons.j0 k a0 a1 bt101.1 bt117.1 true)) else (lychgatelaw17_ReduceReckons.j0 k a0 a1 bt101.1 bt117.1 true)) else (lychgatelaw17_ReduceReckons.j0 k a0 a1 bt101.1 bt117.1 true))))))) = some r := h
  clear h
  replace H := Option.bind_eq_some_iff.mp H
  obtain ⟨⟨t101, t102, t103, t104⟩, A30, H⟩ := H
  replace H : ((reduce_Do.f (⟨#[43]⟩ : ByteArray) a1 a0).bind fun bt105 => ((reduce_Do.f (⟨#[42]⟩ : ByteArray) a0 a1).bind fun bt109 => ((reduce_Do.f (⟨#[42]⟩ : ByteArray) a1 a0).bind fun bt113 => ((reduce_Do.f (⟨#[47]⟩ : ByteArray) a0 a1).bind fun bt117 => (if t104 = 0 then (if bt105.2.2.2 = 0 then (if bt109.2.2.2 = 0 then (if bt113.2.2.2 = 0 then (if t101 = bt105.1 then (if bt109.1 = bt113.1 then (lychgatelaw17_ReduceReckons.j0 k a0 a1 t101 bt117.1 ((bt117.2.2.2 == 182) != (a1 == 0))) else (lychgatelaw17_ReduceReckons.j0 k a0 a1 t101 bt117.1 true)) else (lychgatelaw17_ReduceReckons.j0 k a0 a1 t101 bt117.1 true)) else (lychgatelaw17_ReduceReckons.j0 k a0 a1 t101 bt117.1 true)) else (lychgatelaw17_ReduceReckons.j0 k a0 a1 t101 bt117.1 true)) else (lychgatelaw17_ReduceReckons.j0 k a0 a1 t101 bt117.1 true)) else (lychgatelaw17_ReduceReckons.j0 k a0 a1 t101 bt117.1 true)))))) = some r := H
  have A3 := Aside0.mk A30
  clear A30
  replace H := Option.bind_eq_some_iff.mp H
  obtain ⟨⟨t105, t106, t107, t108⟩, A40, H⟩ := H
  replace H : ((reduce_Do.f (⟨#[42]⟩ : ByteArray) a0 a1).bind fun bt109 => ((reduce_Do.f (⟨#[42]⟩ : ByteArray) a1 a0).bind fun bt113 => ((reduce_Do.f (⟨#[47]⟩ : ByteArray) a0 a1).bind fun bt117 => (if t104 = 0 then (if t108 = 0 then (if bt109.2.2.2 = 0 then (if bt113.2.2.2 = 0 then (if t101 = t105 then (if bt109.1 = bt113.1 then (lychgatelaw17_ReduceReckons.j0 k a0 a1 t101 bt117.1 ((bt117.2.2.2 == 182) != (a1 == 0))) else (lychgatelaw17_ReduceReckons.j0 k a0 a1 t101 bt117.1 true)) else (lychgatelaw17_ReduceReckons.j0 k a0 a1 t101 bt117.1 true)) else (lychgatelaw17_ReduceReckons.j0 k a0 a1 t101 bt117.1 true)) else (lychgatelaw17_ReduceReckons.j0 k a0 a1 t101 bt117.1 true)) else (lychgatelaw17_ReduceReckons.j0 k a0 a1 t101 bt117.1 true)) else (lychgatelaw17_ReduceReckons.j0 k a0 a1 t101 bt117.1 true))))) = some r := H
  have A4 := Aside0.mk A40
  clear A40
  replace H := Option.bind_eq_some_iff.mp H
  obtain ⟨⟨t109, t110, t111, t112⟩, A50, H⟩ := H
  replace H : ((reduce_Do.f (⟨#[42]⟩ : ByteArray) a1 a0).bind fun bt113 => ((reduce_Do.f (⟨#[47]⟩ : ByteArray) a0 a1).bind fun bt117 => (if t104 = 0 then (if t108 = 0 then (if t112 = 0 then (if bt113.2.2.2 = 0 then (if t101 = t105 then (if t109 = bt113.1 then (lychgatelaw17_ReduceReckons.j0 k a0 a1 t101 bt117.1 ((bt117.2.2.2 == 182) != (a1 == 0))) else (lychgatelaw17_ReduceReckons.j0 k a0 a1 t101 bt117.1 true)) else (lychgatelaw17_ReduceReckons.j0 k a0 a1 t101 bt117.1 true)) else (lychgatelaw17_ReduceReckons.j0 k a0 a1 t101 bt117.1 true)) else (lychgatelaw17_ReduceReckons.j0 k a0 a1 t101 bt117.1 true)) else (lychgatelaw17_ReduceReckons.j0 k a0 a1 t101 bt117.1 true)) else (lychgatelaw17_ReduceReckons.j0 k a0 a1 t101 bt117.1 true)))) = some r := H
  have A5 := Aside0.mk A50
  clear A50
  replace H := Option.bind_eq_some_iff.mp H
  obtain ⟨⟨t113, t114, t115, t116⟩, A60, H⟩ := H
  replace H : ((reduce_Do.f (⟨#[47]⟩ : ByteArray) a0 a1).bind fun bt117 => (if t104 = 0 then (if t108 = 0 then (if t112 = 0 then (if t116 = 0 then (if t101 = t105 then (if t109 = t113 then (lychgatelaw17_ReduceReckons.j0 k a0 a1 t101 bt117.1 ((bt117.2.2.2 == 182) != (a1 == 0))) else (lychgatelaw17_ReduceReckons.j0 k a0 a1 t101 bt117.1 true)) else (lychgatelaw17_ReduceReckons.j0 k a0 a1 t101 bt117.1 true)) else (lychgatelaw17_ReduceReckons.j0 k a0 a1 t101 bt117.1 true)) else (lychgatelaw17_ReduceReckons.j0 k a0 a1 t101 bt117.1 true)) else (lychgatelaw17_ReduceReckons.j0 k a0 a1 t101 bt117.1 true)) else (lychgatelaw17_ReduceReckons.j0 k a0 a1 t101 bt117.1 true))) = some r := H
  have A6 := Aside0.mk A60
  clear A60
  replace H := Option.bind_eq_some_iff.mp H
  obtain ⟨⟨t117, t118, t119, t120⟩, A70, H⟩ := H
  replace H : (if t104 = 0 then (if t108 = 0 then (if t112 = 0 then (if t116 = 0 then (if t101 = t105 then (if t109 = t113 then (lychgatelaw17_ReduceReckons.j0 k a0 a1 t101 t117 ((t120 == 182) != (a1 == 0))) else (lychgatelaw17_ReduceReckons.j0 k a0 a1 t101 t117 true)) else (lychgatelaw17_ReduceReckons.j0 k a0 a1 t101 t117 true)) else (lychgatelaw17_ReduceReckons.j0 k a0 a1 t101 t117 true)) else (lychgatelaw17_ReduceReckons.j0 k a0 a1 t101 t117 true)) else (lychgatelaw17_ReduceReckons.j0 k a0 a1 t101 t117 true)) else (lychgatelaw17_ReduceReckons.j0 k a0 a1 t101 t117 true)) = some r := H
  have A7 := Aside0.mk A70
  clear A70
  have HC8 := Aside0.mk H
  clear H
  go_enter Try.func4, Try.ntmps4
  go_upto_region 6 with (first | ((with_reducible refine gate_callee (f := 15) rfl ?_); refine goesL_ (some 33) rfl rfl Try.func15 (by kernel_rfl) rfl #[.string (⟨#[43]⟩ : ByteArray), .int .i64 a0, .int .i64 a1] rfl (by (try simp only [List.map_toArray, List.map_cons, List.map_nil]); first | done | rfl | (simp only [List.length_drop, List.length_take]; rfl)) ?_; (with_reducible refine (reduce_Do.calls (⟨#[43]⟩ : ByteArray) a0 a1 t101 t102 t103 t104 _ A3.out).mono ?_); rintro e w' ⟨rfl, ⟨nd, rfl⟩⟩; refine ⟨_, rfl, ?_⟩) | ((with_reducible refine gate_callee (f := 15) rfl ?_); refine goesL_ (some 41) rfl rfl Try.func15 (by kernel_rfl) rfl #[.string (⟨#[43]⟩ : ByteArray), .int .i64 a1, .int .i64 a0] rfl (by (try simp only [List.map_toArray, List.map_cons, List.map_nil]); first | done | rfl | (simp only [List.length_drop, List.length_take]; rfl)) ?_; (with_reducible refine (reduce_Do.calls (⟨#[43]⟩ : ByteArray) a1 a0 t105 t106 t107 t108 _ A4.out).mono ?_); rintro e w' ⟨rfl, ⟨nd, rfl⟩⟩; refine ⟨_, rfl, ?_⟩) | ((with_reducible refine gate_callee (f := 15) rfl ?_); refine goesL_ (some 49) rfl rfl Try.func15 (by kernel_rfl) rfl #[.string (⟨#[42]⟩ : ByteArray), .int .i64 a0, .int .i64 a1] rfl (by (try simp only [List.map_toArray, List.map_cons, List.map_nil]); first | done | rfl | (simp only [List.length_drop, List.length_take]; rfl)) ?_; (with_reducible refine (reduce_Do.calls (⟨#[42]⟩ : ByteArray) a0 a1 t109 t110 t111 t112 _ A5.out).mono ?_); rintro e w' ⟨rfl, ⟨nd, rfl⟩⟩; refine ⟨_, rfl, ?_⟩) | ((with_reducible refine gate_callee (f := 15) rfl ?_); refine goesL_ (some 57) rfl rfl Try.func15 (by kernel_rfl) rfl #[.string (⟨#[42]⟩ : ByteArray), .int .i64 a1, .int .i64 a0] rfl (by (try simp only [List.map_toArray, List.map_cons, List.map_nil]); first | done | rfl | (simp only [List.length_drop, List.length_take]; rfl)) ?_; (with_reducible refine (reduce_Do.calls (⟨#[42]⟩ : ByteArray) a1 a0 t113 t114 t115 t116 _ A6.out).mono ?_); rintro e w' ⟨rfl, ⟨nd, rfl⟩⟩; refine ⟨_, rfl, ?_⟩) | ((with_reducible refine gate_callee (f := 15) rfl ?_); refine goesL_ (some 65) rfl rfl Try.func15 (by kernel_rfl) rfl #[.string (⟨#[47]⟩ : ByteArray), .int .i64 a0, .int .i64 a1] rfl (by (try simp only [List.map_toArray, List.map_cons, List.map_nil]); first | done | rfl | (simp only [List.length_drop, List.length_take]; rfl)) ?_; (with_reducible refine (reduce_Do.calls (⟨#[47]⟩ : ByteArray) a0 a1 t117 t118 t119 t120 _ A7.out).mono ?_); rintro e w' ⟨rfl, ⟨nd, rfl⟩⟩; refine ⟨_, rfl, ?_⟩))
  (try simp only [Act.put, List.setIfInBounds_toArray, List.set_cons_zero, List.set_cons_succ])
  go_cut [100] (fun v100 wc => ∃ (kq : Nat) (x100_7 : Bool), v100 = .bool x100_7 ∧ Aside0 (lychgatelaw17_ReduceReckons.j0 kq a0 a1 t101 t117 x100_7 = some r) ∧ Aside0 (kq ≤ k) ∧ Drawn0 w wc)
  case first =>
    have H := HC8.out
    clear HC8
    by_cases c9 : t104 = 0
    · rw [if_pos c9] at H
      have c9b0 : (t104 == 0) = true := beq_iff_eq.mpr c9
      have c9b1 : (t104 != 0) = false := bne_eq_false_iff_eq.mpr c9
      clear c9
      (first | rw [c9b0] | (simp only [i64_w, i32_w]; rw [c9b0]) | skip)
      by_cases c10 : t108 = 0
      · rw [if_pos c10] at H
        have c10b0 : (t108 == 0) = true := beq_iff_eq.mpr c10
        have c10b1 : (t108 != 0) = false := bne_eq_false_iff_eq.mpr c10
        clear c10
        by_cases c11 : t112 = 0
        · rw [if_pos c11] at H
          have c11b0 : (t112 == 0) = true := beq_iff_eq.mpr c11
          have c11b1 : (t112 != 0) = false := bne_eq_false_iff_eq.mpr c11
          clear c11
          by_cases c12 : t116 = 0
          · rw [if_pos c12] at H
            have c12b0 : (t116 == 0) = true := beq_iff_eq.mpr c12
            have c12b1 : (t116 != 0) = false := bne_eq_false_iff_eq.mpr c12
            clear c12
            by_cases c13 : t101 = t105
            · rw [if_pos c13] at H
              have c13b0 : (t101 == t105) = true := beq_iff_eq.mpr c13
              have c13b1 : (t101 != t105) = false := bne_eq_false_iff_eq.mpr c13
              clear c13
              by_cases c14 : t109 = t113
              · rw [if_pos c14] at H
                have c14b0 : (t109 == t113) = true := beq_iff_eq.mpr c14
                have c14b1 : (t109 != t113) = false := bne_eq_false_iff_eq.mpr c14
                clear c14
                have H' := Aside0.mk H
                clear H
                go_wp2
                go_meet
                case rel => exact ⟨_, (((t120 == 182) != (a1 == 0))), (by first | rfl | (simp; done) | (simp [*]; done)), H', ⟨by first | omega | exact Nat.le_refl _⟩, by repeat (first | exact Drawn0.refl _ | apply Drawn0.step)⟩
              · rw [if_neg c14] at H
                have c14b0 : (t109 == t113) = false := beq_eq_false_iff_ne.mpr c14
                have c14b1 : (t109 != t113) = true := bne_iff_ne.mpr c14
                have H' := Aside0.mk H
                clear H
                go_wp2
                go_meet
                case rel => exact ⟨_, (true), (by first | rfl | (simp; done) | (simp [*]; done)), H', ⟨by first | omega | exact Nat.le_refl _⟩, by repeat (first | exact Drawn0.refl _ | apply Drawn0.step)⟩
            · rw [if_neg c13] at H
              have c13b0 : (t101 == t105) = false := beq_eq_false_iff_ne.mpr c13
              have c13b1 : (t101 != t105) = true := bne_iff_ne.mpr c13
              have H' := Aside0.mk H
              clear H
              go_wp2
              go_meet
              case rel => exact ⟨_, (true), (by first | rfl | (simp; done) | (simp [*]; done)), H', ⟨by first | omega | exact Nat.le_refl _⟩, by repeat (first | exact Drawn0.refl _ | apply Drawn0.step)⟩
          · rw [if_neg c12] at H
            have c12b0 : (t116 == 0) = false := beq_eq_false_iff_ne.mpr c12
            have c12b1 : (t116 != 0) = true := bne_iff_ne.mpr c12
            have H' := Aside0.mk H
            clear H
            go_wp2
            go_meet
            case rel => exact ⟨_, (true), (by first | rfl | (simp; done) | (simp [*]; done)), H', ⟨by first | omega | exact Nat.le_refl _⟩, by repeat (first | exact Drawn0.refl _ | apply Drawn0.step)⟩
        · rw [if_neg c11] at H
          have c11b0 : (t112 == 0) = false := beq_eq_false_iff_ne.mpr c11
          have c11b1 : (t112 != 0) = true := bne_iff_ne.mpr c11
          have H' := Aside0.mk H
          clear H
          go_wp2
          go_meet
          case rel => exact ⟨_, (true), (by first | rfl | (simp; done) | (simp [*]; done)), H', ⟨by first | omega | exact Nat.le_refl _⟩, by repeat (first | exact Drawn0.refl _ | apply Drawn0.step)⟩
      · rw [if_neg c10] at H
        have c10b0 : (t108 == 0) = false := beq_eq_false_iff_ne.mpr c10
        have c10b1 : (t108 != 0) = true := bne_iff_ne.mpr c10
        have H' := Aside0.mk H
        clear H
        go_wp2
        go_meet
        case rel => exact ⟨_, (true), (by first | rfl | (simp; done) | (simp [*]; done)), H', ⟨by first | omega | exact Nat.le_refl _⟩, by repeat (first | exact Drawn0.refl _ | apply Drawn0.step)⟩
    · rw [if_neg c9] at H
      have c9b0 : (t104 == 0) = false := beq_eq_false_iff_ne.mpr c9
      have c9b1 : (t104 != 0) = true := bne_iff_ne.mpr c9
      (first | rw [c9b0] | (simp only [i64_w, i32_w]; rw [c9b0]) | skip)
      have H' := Aside0.mk H
      clear H
      go_wp2
      go_meet
      case rel => exact ⟨_, (true), (by first | rfl | (simp; done) | (simp [*]; done)), H', ⟨by first | omega | exact Nat.le_refl _⟩, by repeat (first | exact Drawn0.refl _ | apply Drawn0.step)⟩
  case rest =>
    clear HC8
    try clear c1
    try clear p2
    try clear c4
    try clear c9
    try clear c9b0
    try clear c9b1
    try clear c10
    try clear c10b0
    try clear c10b1
    try clear c11
    try clear c11b0
    try clear c11b1
    try clear c12
    try clear c12b0
    try clear c12b1
    try clear c13
    try clear c13b0
    try clear c13b1
    try clear c14
    try clear c14b0
    try clear c14b1
    obtain ⟨kq, x100_7, rfl, HA, HJ7, ⟨mc7, rfl⟩⟩ := hcut
    cases kq with
    | zero => exact absurd HA.out (by simp [lychgatelaw17_ReduceReckons.j0])
    | succ kj7 =>
      have H := HA.out
      clear HA
      simp only [lychgatelaw17_ReduceReckons.j0] at H
      by_cases c15 : x100_7 = true
      · subst c15
        have H1 : (some false) = some r := by rw [if_pos rfl] at H; exact H
        clear H
        have H := H1
        clear H1
        obtain rfl := Option.some.inj H
        go_wp2
        go_ret
        exact ⟨by first | rfl | (simp; done) | (simp [*]; done), by repeat (first | exact Drawn0.refl _ | apply Drawn0.step)⟩
      · replace c15 := Bool.eq_false_iff.mpr c15
        subst c15
        have H1 : ((reduce_Do.f (⟨#[45]⟩ : ByteArray) t101 a1).bind fun bt121 => (if a1 = 0 then (if bt121.1 = a0 then (some (t117 == 0)) else (some false)) else (if bt121.1 = a0 then (if (wrap64 (a0 - (wrap64 (t117 * a1)))) = 0 then (some true) else (if ((decide ((wrap64 (a0 - (wrap64 (t117 * a1)))) < 0)) == (decide (a0 < 0))) = true then (if (wrap64 (a0 - (wrap64 (t117 * a1)))) > (wrap64 (-a1)) then (if (wrap64 (a0 - (wrap64 (t117 * a1)))) < a1 then (some true) else (if a1 < 0 then (if a1 = (-9223372036854775808) then (some true) else (some (decide ((wrap64 (a0 - (wrap64 (t117 * a1)))) < (wrap64 (-a1)))))) else (some false))) else (if a1 < 0 then (if (wrap64 (a0 - (wrap64 (t117 * a1)))) > a1 then (if (wrap64 (a0 - (wrap64 (t117 * a1)))) < a1 then (some true) else (if a1 = (-9223372036854775808) then (some true) else (some (decide ((wrap64 (a0 - (wrap64 (t117 * a1)))) < (wrap64 (-a1))))))) else (if a1 = (-9223372036854775808) then (if (wrap64 (a0 - (wrap64 (t117 * a1)))) < a1 then (some true) else (some true)) else (some false))) else (if a1 = (-9223372036854775808) then (if (wrap64 (a0 - (wrap64 (t117 * a1)))) < a1 then (some true) else (some false)) else (some false)))) else (some false))) else (some false)))) = some r := by rw [if_neg (show ¬ (false = true) by decide)] at H; exact H
        clear H
        have H := H1
        clear H1
        replace H := Option.bind_eq_some_iff.mp H
        obtain ⟨⟨t121, t122, t123, t124⟩, A160, H⟩ := H
        replace H : (if a1 = 0 then (if t121 = a0 then (some (t117 == 0)) else (some false)) else (if t121 = a0 then (if (wrap64 (a0 - (wrap64 (t117 * a1)))) = 0 then (some true) else (if ((decide ((wrap64 (a0 - (wrap64 (t117 * a1)))) < 0)) == (decide (a0 < 0))) = true then (if (wrap64 (a0 - (wrap64 (t117 * a1)))) > (wrap64 (-a1)) then (if (wrap64 (a0 - (wrap64 (t117 * a1)))) < a1 then (some true) else (if a1 < 0 then (if a1 = (-9223372036854775808) then (some true) else (some (decide ((wrap64 (a0 - (wrap64 (t117 * a1)))) < (wrap64 (-a1)))))) else (some false))) else (if a1 < 0 then (if (wrap64 (a0 - (wrap64 (t117 * a1)))) > a1 then (if (wrap64 (a0 - (wrap64 (t117 * a1)))) < a1 then (some true) else (if a1 = (-9223372036854775808) then (some true) else (some (decide ((wrap64 (a0 - (wrap64 (t117 * a1)))) < (wrap64 (-a1))))))) else (if a1 = (-9223372036854775808) then (if (wrap64 (a0 - (wrap64 (t117 * a1)))) < a1 then (some true) else (some true)) else (some false))) else (if a1 = (-9223372036854775808) then (if (wrap64 (a0 - (wrap64 (t117 * a1)))) < a1 then (some true) else (some false)) else (some false)))) else (some false))) else (some false))) = some r := H
        have A16 := Aside0.mk A160
        clear A160
        by_cases c17 : a1 = 0
        · rw [if_pos c17] at H
          have c17b0 : (a1 == 0) = true := beq_iff_eq.mpr c17
          have c17b1 : (a1 != 0) = false := bne_eq_false_iff_eq.mpr c17
          clear c17
          by_cases c18 : t121 = a0
          · rw [if_pos c18] at H
            have c18b0 : (t121 == a0) = true := beq_iff_eq.mpr c18
            have c18b1 : (t121 != a0) = false := bne_eq_false_iff_eq.mpr c18
            clear c18
            obtain rfl := Option.some.inj H
            go_wp2_with (first | ((with_reducible refine gate_callee (f := 15) rfl ?_); refine goesL_ (some 104) rfl rfl Try.func15 (by kernel_rfl) rfl #[.string (⟨#[45]⟩ : ByteArray), .int .i64 t101, .int .i64 a1] rfl (by (try simp only [List.map_toArray, List.map_cons, List.map_nil]); first | done | rfl | (simp only [List.length_drop, List.length_take]; rfl)) ?_; (with_reducible refine (reduce_Do.calls (⟨#[45]⟩ : ByteArray) t101 a1 t121 t122 t123 t124 _ A16.out).mono ?_); rintro e w' ⟨rfl, ⟨nd, rfl⟩⟩; refine ⟨_, rfl, ?_⟩))
            go_ret
            exact ⟨by first | rfl | (simp; done) | (simp [*]; done), by repeat (first | exact Drawn0.refl _ | apply Drawn0.step)⟩
          · rw [if_neg c18] at H
            have c18b0 : (t121 == a0) = false := beq_eq_false_iff_ne.mpr c18
            have c18b1 : (t121 != a0) = true := bne_iff_ne.mpr c18
            obtain rfl := Option.some.inj H
            go_wp2_with (first | ((with_reducible refine gate_callee (f := 15) rfl ?_); refine goesL_ (some 104) rfl rfl Try.func15 (by kernel_rfl) rfl #[.string (⟨#[45]⟩ : ByteArray), .int .i64 t101, .int .i64 a1] rfl (by (try simp only [List.map_toArray, List.map_cons, List.map_nil]); first | done | rfl | (simp only [List.length_drop, List.length_take]; rfl)) ?_; (with_reducible refine (reduce_Do.calls (⟨#[45]⟩ : ByteArray) t101 a1 t121 t122 t123 t124 _ A16.out).mono ?_); rintro e w' ⟨rfl, ⟨nd, rfl⟩⟩; refine ⟨_, rfl, ?_⟩))
            go_ret
            exact ⟨by first | rfl | (simp; done) | (simp [*]; done), by repeat (first | exact Drawn0.refl _ | apply Drawn0.step)⟩
        · rw [if_neg c17] at H
          have c17b0 : (a1 == 0) = false := beq_eq_false_iff_ne.mpr c17
          have c17b1 : (a1 != 0) = true := bne_iff_ne.mpr c17
          by_cases c19 : t121 = a0
          · rw [if_pos c19] at H
            have c19b0 : (t121 == a0) = true := beq_iff_eq.mpr c19
            have c19b1 : (t121 != a0) = false := bne_eq_false_iff_eq.mpr c19
            clear c19
            by_cases c20 : (wrap64 (a0 - (wrap64 (t117 * a1)))) = 0
            · rw [if_pos c20] at H
              have c20b0 : ((wrap64 (a0 - (wrap64 (t117 * a1)))) == 0) = true := beq_iff_eq.mpr c20
              have c20b1 : ((wrap64 (a0 - (wrap64 (t117 * a1)))) != 0) = false := bne_eq_false_iff_eq.mpr c20
              clear c20
              obtain rfl := Option.some.inj H
              go_wp2_with (first | ((with_reducible refine gate_callee (f := 15) rfl ?_); refine goesL_ (some 104) rfl rfl Try.func15 (by kernel_rfl) rfl #[.string (⟨#[45]⟩ : ByteArray), .int .i64 t101, .int .i64 a1] rfl (by (try simp only [List.map_toArray, List.map_cons, List.map_nil]); first | done | rfl | (simp only [List.length_drop, List.length_take]; rfl)) ?_; (with_reducible refine (reduce_Do.calls (⟨#[45]⟩ : ByteArray) t101 a1 t121 t122 t123 t124 _ A16.out).mono ?_); rintro e w' ⟨rfl, ⟨nd, rfl⟩⟩; refine ⟨_, rfl, ?_⟩))
              go_ret
              exact ⟨by first | rfl | (simp; done) | (simp [*]; done), by repeat (first | exact Drawn0.refl _ | apply Drawn0.step)⟩
            · rw [if_neg c20] at H
              have c20b0 : ((wrap64 (a0 - (wrap64 (t117 * a1)))) == 0) = false := beq_eq_false_iff_ne.mpr c20
              have c20b1 : ((wrap64 (a0 - (wrap64 (t117 * a1)))) != 0) = true := bne_iff_ne.mpr c20
              by_cases c21 : ((decide ((wrap64 (a0 - (wrap64 (t117 * a1)))) < 0)) == (decide (a0 < 0))) = true
              · rw [if_pos c21] at H
                have c21b0 : ((decide ((wrap64 (a0 - (wrap64 (t117 * a1)))) < 0)) == (decide (a0 < 0))) = true := c21
                (try (have c21b1 : decide ((decide ((wrap64 (a0 - (wrap64 (t117 * a1)))) < 0)) = (decide (a0 < 0))) = true := by simpa using c21))
                (try (have c21b2 : ((decide ((wrap64 (a0 - (wrap64 (t117 * a1)))) < 0)) == (decide (a0 < 0))) = true := by simpa using c21))
                clear c21
                by_cases c22 : (wrap64 (a0 - (wrap64 (t117 * a1)))) > (wrap64 (-a1))
                · rw [if_pos c22] at H
                  have c22b0 : decide ((wrap64 (-a1)) < (wrap64 (a0 - (wrap64 (t117 * a1))))) = true := decide_eq_true c22
                  clear c22
                  by_cases c23 : (wrap64 (a0 - (wrap64 (t117 * a1)))) < a1
                  · rw [if_pos c23] at H
                    have c23b0 : decide ((wrap64 (a0 - (wrap64 (t117 * a1)))) < a1) = true := decide_eq_true c23
                    clear c23
                    obtain rfl := Option.some.inj H
                    go_wp2_with (first | ((with_reducible refine gate_callee (f := 15) rfl ?_); refine goesL_ (some 104) rfl rfl Try.func15 (by kernel_rfl) rfl #[.string (⟨#[45]⟩ : ByteArray), .int .i64 t101, .int .i64 a1] rfl (by (try simp only [List.map_toArray, List.map_cons, List.map_nil]); first | done | rfl | (simp only [List.length_drop, List.length_take]; rfl)) ?_; (with_reducible refine (reduce_Do.calls (⟨#[45]⟩ : ByteArray) t101 a1 t121 t122 t123 t124 _ A16.out).mono ?_); rintro e w' ⟨rfl, ⟨nd, rfl⟩⟩; refine ⟨_, rfl, ?_⟩))
                    go_ret
                    exact ⟨by first | rfl | (simp; done) | (simp [*]; done), by repeat (first | exact Drawn0.refl _ | apply Drawn0.step)⟩
                  · rw [if_neg c23] at H
                    have c23b0 : decide ((wrap64 (a0 - (wrap64 (t117 * a1)))) < a1) = false := decide_eq_false c23
                    clear c23
                    by_cases c24 : a1 < 0
                    · rw [if_pos c24] at H
                      have c24b0 : decide (a1 < 0) = true := decide_eq_true c24
                      clear c24
                      by_cases c25 : a1 = (-9223372036854775808)
                      · rw [if_pos c25] at H
                        have c25b0 : (a1 == (-9223372036854775808)) = true := beq_iff_eq.mpr c25
                        have c25b1 : (a1 != (-9223372036854775808)) = false := bne_eq_false_iff_eq.mpr c25
                        clear c25
                        obtain rfl := Option.some.inj H
                        go_wp2_with (first | ((with_reducible refine gate_callee (f := 15) rfl ?_); refine goesL_ (some 104) rfl rfl Try.func15 (by kernel_rfl) rfl #[.string (⟨#[45]⟩ : ByteArray), .int .i64 t101, .int .i64 a1] rfl (by (try simp only [List.map_toArray, List.map_cons, List.map_nil]); first | done | rfl | (simp only [List.length_drop, List.length_take]; rfl)) ?_; (with_reducible refine (reduce_Do.calls (⟨#[45]⟩ : ByteArray) t101 a1 t121 t122 t123 t124 _ A16.out).mono ?_); rintro e w' ⟨rfl, ⟨nd, rfl⟩⟩; refine ⟨_, rfl, ?_⟩))
                        go_ret
                        exact ⟨by first | rfl | (simp; done) | (simp [*]; done), by repeat (first | exact Drawn0.refl _ | apply Drawn0.step)⟩
                      · rw [if_neg c25] at H
                        have c25b0 : (a1 == (-9223372036854775808)) = false := beq_eq_false_iff_ne.mpr c25
                        have c25b1 : (a1 != (-9223372036854775808)) = true := bne_iff_ne.mpr c25
                        obtain rfl := Option.some.inj H
                        go_wp2_with (first | ((with_reducible refine gate_callee (f := 15) rfl ?_); refine goesL_ (some 104) rfl rfl Try.func15 (by kernel_rfl) rfl #[.string (⟨#[45]⟩ : ByteArray), .int .i64 t101, .int .i64 a1] rfl (by (try simp only [List.map_toArray, List.map_cons, List.map_nil]); first | done | rfl | (simp only [List.length_drop, List.length_take]; rfl)) ?_; (with_reducible refine (reduce_Do.calls (⟨#[45]⟩ : ByteArray) t101 a1 t121 t122 t123 t124 _ A16.out).mono ?_); rintro e w' ⟨rfl, ⟨nd, rfl⟩⟩; refine ⟨_, rfl, ?_⟩))
                        go_ret
                        exact ⟨by first | rfl | (simp; done) | (simp [*]; done), by repeat (first | exact Drawn0.refl _ | apply Drawn0.step)⟩
                    · rw [if_neg c24] at H
                      have c24b0 : decide (a1 < 0) = false := decide_eq_false c24
                      clear c24
                      obtain rfl := Option.some.inj H
                      go_wp2_with (first | ((with_reducible refine gate_callee (f := 15) rfl ?_); refine goesL_ (some 104) rfl rfl Try.func15 (by kernel_rfl) rfl #[.string (⟨#[45]⟩ : ByteArray), .int .i64 t101, .int .i64 a1] rfl (by (try simp only [List.map_toArray, List.map_cons, List.map_nil]); first | done | rfl | (simp only [List.length_drop, List.length_take]; rfl)) ?_; (with_reducible refine (reduce_Do.calls (⟨#[45]⟩ : ByteArray) t101 a1 t121 t122 t123 t124 _ A16.out).mono ?_); rintro e w' ⟨rfl, ⟨nd, rfl⟩⟩; refine ⟨_, rfl, ?_⟩))
                      go_ret
                      exact ⟨by first | rfl | (simp; done) | (simp [*]; done), by repeat (first | exact Drawn0.refl _ | apply Drawn0.step)⟩
                · rw [if_neg c22] at H
                  have c22b0 : decide ((wrap64 (-a1)) < (wrap64 (a0 - (wrap64 (t117 * a1))))) = false := decide_eq_false c22
                  clear c22
                  by_cases c26 : a1 < 0
                  · rw [if_pos c26] at H
                    have c26b0 : decide (a1 < 0) = true := decide_eq_true c26
                    clear c26
                    by_cases c27 : (wrap64 (a0 - (wrap64 (t117 * a1)))) > a1
                    · rw [if_pos c27] at H
                      have c27b0 : decide (a1 < (wrap64 (a0 - (wrap64 (t117 * a1))))) = true := decide_eq_true c27
                      clear c27
                      by_cases c28 : (wrap64 (a0 - (wrap64 (t117 * a1)))) < a1
                      · rw [if_pos c28] at H
                        have c28b0 : decide ((wrap64 (a0 - (wrap64 (t117 * a1)))) < a1) = true := decide_eq_true c28
                        clear c28
                        obtain rfl := Option.some.inj H
                        go_wp2_with (first | ((with_reducible refine gate_callee (f := 15) rfl ?_); refine goesL_ (some 104) rfl rfl Try.func15 (by kernel_rfl) rfl #[.string (⟨#[45]⟩ : ByteArray), .int .i64 t101, .int .i64 a1] rfl (by (try simp only [List.map_toArray, List.map_cons, List.map_nil]); first | done | rfl | (simp only [List.length_drop, List.length_take]; rfl)) ?_; (with_reducible refine (reduce_Do.calls (⟨#[45]⟩ : ByteArray) t101 a1 t121 t122 t123 t124 _ A16.out).mono ?_); rintro e w' ⟨rfl, ⟨nd, rfl⟩⟩; refine ⟨_, rfl, ?_⟩))
                        go_ret
                        exact ⟨by first | rfl | (simp; done) | (simp [*]; done), by repeat (first | exact Drawn0.refl _ | apply Drawn0.step)⟩
                      · rw [if_neg c28] at H
                        have c28b0 : decide ((wrap64 (a0 - (wrap64 (t117 * a1)))) < a1) = false := decide_eq_false c28
                        clear c28
                        by_cases c29 : a1 = (-9223372036854775808)
                        · rw [if_pos c29] at H
                          have c29b0 : (a1 == (-9223372036854775808)) = true := beq_iff_eq.mpr c29
                          have c29b1 : (a1 != (-9223372036854775808)) = false := bne_eq_false_iff_eq.mpr c29
                          clear c29
                          obtain rfl := Option.some.inj H
                          go_wp2_with (first | ((with_reducible refine gate_callee (f := 15) rfl ?_); refine goesL_ (some 104) rfl rfl Try.func15 (by kernel_rfl) rfl #[.string (⟨#[45]⟩ : ByteArray), .int .i64 t101, .int .i64 a1] rfl (by (try simp only [List.map_toArray, List.map_cons, List.map_nil]); first | done | rfl | (simp only [List.length_drop, List.length_take]; rfl)) ?_; (with_reducible refine (reduce_Do.calls (⟨#[45]⟩ : ByteArray) t101 a1 t121 t122 t123 t124 _ A16.out).mono ?_); rintro e w' ⟨rfl, ⟨nd, rfl⟩⟩; refine ⟨_, rfl, ?_⟩))
                          go_ret
                          exact ⟨by first | rfl | (simp; done) | (simp [*]; done), by repeat (first | exact Drawn0.refl _ | apply Drawn0.step)⟩
                        · rw [if_neg c29] at H
                          have c29b0 : (a1 == (-9223372036854775808)) = false := beq_eq_false_iff_ne.mpr c29
                          have c29b1 : (a1 != (-9223372036854775808)) = true := bne_iff_ne.mpr c29
                          obtain rfl := Option.some.inj H
                          go_wp2_with (first | ((with_reducible refine gate_callee (f := 15) rfl ?_); refine goesL_ (some 104) rfl rfl Try.func15 (by kernel_rfl) rfl #[.string (⟨#[45]⟩ : ByteArray), .int .i64 t101, .int .i64 a1] rfl (by (try simp only [List.map_toArray, List.map_cons, List.map_nil]); first | done | rfl | (simp only [List.length_drop, List.length_take]; rfl)) ?_; (with_reducible refine (reduce_Do.calls (⟨#[45]⟩ : ByteArray) t101 a1 t121 t122 t123 t124 _ A16.out).mono ?_); rintro e w' ⟨rfl, ⟨nd, rfl⟩⟩; refine ⟨_, rfl, ?_⟩))
                          go_ret
                          exact ⟨by first | rfl | (simp; done) | (simp [*]; done), by repeat (first | exact Drawn0.refl _ | apply Drawn0.step)⟩
                    · rw [if_neg c27] at H
                      have c27b0 : decide (a1 < (wrap64 (a0 - (wrap64 (t117 * a1))))) = false := decide_eq_false c27
                      clear c27
                      by_cases c30 : a1 = (-9223372036854775808)
                      · rw [if_pos c30] at H
                        have c30b0 : (a1 == (-9223372036854775808)) = true := beq_iff_eq.mpr c30
                        have c30b1 : (a1 != (-9223372036854775808)) = false := bne_eq_false_iff_eq.mpr c30
                        clear c30
                        by_cases c31 : (wrap64 (a0 - (wrap64 (t117 * a1)))) < a1
                        · rw [if_pos c31] at H
                          have c31b0 : decide ((wrap64 (a0 - (wrap64 (t117 * a1)))) < a1) = true := decide_eq_true c31
                          clear c31
                          obtain rfl := Option.some.inj H
                          go_wp2_with (first | ((with_reducible refine gate_callee (f := 15) rfl ?_); refine goesL_ (some 104) rfl rfl Try.func15 (by kernel_rfl) rfl #[.string (⟨#[45]⟩ : ByteArray), .int .i64 t101, .int .i64 a1] rfl (by (try simp only [List.map_toArray, List.map_cons, List.map_nil]); first | done | rfl | (simp only [List.length_drop, List.length_take]; rfl)) ?_; (with_reducible refine (reduce_Do.calls (⟨#[45]⟩ : ByteArray) t101 a1 t121 t122 t123 t124 _ A16.out).mono ?_); rintro e w' ⟨rfl, ⟨nd, rfl⟩⟩; refine ⟨_, rfl, ?_⟩))
                          go_ret
                          exact ⟨by first | rfl | (simp; done) | (simp [*]; done), by repeat (first | exact Drawn0.refl _ | apply Drawn0.step)⟩
                        · rw [if_neg c31] at H
                          have c31b0 : decide ((wrap64 (a0 - (wrap64 (t117 * a1)))) < a1) = false := decide_eq_false c31
                          clear c31
                          obtain rfl := Option.some.inj H
                          go_wp2_with (first | ((with_reducible refine gate_callee (f := 15) rfl ?_); refine goesL_ (some 104) rfl rfl Try.func15 (by kernel_rfl) rfl #[.string (⟨#[45]⟩ : ByteArray), .int .i64 t101, .int .i64 a1] rfl (by (try simp only [List.map_toArray, List.map_cons, List.map_nil]); first | done | rfl | (simp only [List.length_drop, List.length_take]; rfl)) ?_; (with_reducible refine (reduce_Do.calls (⟨#[45]⟩ : ByteArray) t101 a1 t121 t122 t123 t124 _ A16.out).mono ?_); rintro e w' ⟨rfl, ⟨nd, rfl⟩⟩; refine ⟨_, rfl, ?_⟩))
                          go_ret
                          exact ⟨by first | rfl | (simp; done) | (simp [*]; done), by repeat (first | exact Drawn0.refl _ | apply Drawn0.step)⟩
                      · rw [if_neg c30] at H
                        have c30b0 : (a1 == (-9223372036854775808)) = false := beq_eq_false_iff_ne.mpr c30
                        have c30b1 : (a1 != (-9223372036854775808)) = true := bne_iff_ne.mpr c30
                        obtain rfl := Option.some.inj H
                        go_wp2_with (first | ((with_reducible refine gate_callee (f := 15) rfl ?_); refine goesL_ (some 104) rfl rfl Try.func15 (by kernel_rfl) rfl #[.string (⟨#[45]⟩ : ByteArray), .int .i64 t101, .int .i64 a1] rfl (by (try simp only [List.map_toArray, List.map_cons, List.map_nil]); first | done | rfl | (simp only [List.length_drop, List.length_take]; rfl)) ?_; (with_reducible refine (reduce_Do.calls (⟨#[45]⟩ : ByteArray) t101 a1 t121 t122 t123 t124 _ A16.out).mono ?_); rintro e w' ⟨rfl, ⟨nd, rfl⟩⟩; refine ⟨_, rfl, ?_⟩))
                        go_ret
                        exact ⟨by first | rfl | (simp; done) | (simp [*]; done), by repeat (first | exact Drawn0.refl _ | apply Drawn0.step)⟩
                  · rw [if_neg c26] at H
                    have c26b0 : decide (a1 < 0) = false := decide_eq_false c26
                    clear c26
                    by_cases c32 : a1 = (-9223372036854775808)
                    · rw [if_pos c32] at H
                      have c32b0 : (a1 == (-9223372036854775808)) = true := beq_iff_eq.mpr c32
                      have c32b1 : (a1 != (-9223372036854775808)) = false := bne_eq_false_iff_eq.mpr c32
                      clear c32
                      by_cases c33 : (wrap64 (a0 - (wrap64 (t117 * a1)))) < a1
                      · rw [if_pos c33] at H
                        have c33b0 : decide ((wrap64 (a0 - (wrap64 (t117 * a1)))) < a1) = true := decide_eq_true c33
                        clear c33
                        obtain rfl := Option.some.inj H
                        go_wp2_with (first | ((with_reducible refine gate_callee (f := 15) rfl ?_); refine goesL_ (some 104) rfl rfl Try.func15 (by kernel_rfl) rfl #[.string (⟨#[45]⟩ : ByteArray), .int .i64 t101, .int .i64 a1] rfl (by (try simp only [List.map_toArray, List.map_cons, List.map_nil]); first | done | rfl | (simp only [List.length_drop, List.length_take]; rfl)) ?_; (with_reducible refine (reduce_Do.calls (⟨#[45]⟩ : ByteArray) t101 a1 t121 t122 t123 t124 _ A16.out).mono ?_); rintro e w' ⟨rfl, ⟨nd, rfl⟩⟩; refine ⟨_, rfl, ?_⟩))
                        go_ret
                        exact ⟨by first | rfl | (simp; done) | (simp [*]; done), by repeat (first | exact Drawn0.refl _ | apply Drawn0.step)⟩
                      · rw [if_neg c33] at H
                        have c33b0 : decide ((wrap64 (a0 - (wrap64 (t117 * a1)))) < a1) = false := decide_eq_false c33
                        clear c33
                        obtain rfl := Option.some.inj H
                        go_wp2_with (first | ((with_reducible refine gate_callee (f := 15) rfl ?_); refine goesL_ (some 104) rfl rfl Try.func15 (by kernel_rfl) rfl #[.string (⟨#[45]⟩ : ByteArray), .int .i64 t101, .int .i64 a1] rfl (by (try simp only [List.map_toArray, List.map_cons, List.map_nil]); first | done | rfl | (simp only [List.length_drop, List.length_take]; rfl)) ?_; (with_reducible refine (reduce_Do.calls (⟨#[45]⟩ : ByteArray) t101 a1 t121 t122 t123 t124 _ A16.out).mono ?_); rintro e w' ⟨rfl, ⟨nd, rfl⟩⟩; refine ⟨_, rfl, ?_⟩))
                        go_ret
                        exact ⟨by first | rfl | (simp; done) | (simp [*]; done), by repeat (first | exact Drawn0.refl _ | apply Drawn0.step)⟩
                    · rw [if_neg c32] at H
                      have c32b0 : (a1 == (-9223372036854775808)) = false := beq_eq_false_iff_ne.mpr c32
                      have c32b1 : (a1 != (-9223372036854775808)) = true := bne_iff_ne.mpr c32
                      obtain rfl := Option.some.inj H
                      go_wp2_with (first | ((with_reducible refine gate_callee (f := 15) rfl ?_); refine goesL_ (some 104) rfl rfl Try.func15 (by kernel_rfl) rfl #[.string (⟨#[45]⟩ : ByteArray), .int .i64 t101, .int .i64 a1] rfl (by (try simp only [List.map_toArray, List.map_cons, List.map_nil]); first | done | rfl | (simp only [List.length_drop, List.length_take]; rfl)) ?_; (with_reducible refine (reduce_Do.calls (⟨#[45]⟩ : ByteArray) t101 a1 t121 t122 t123 t124 _ A16.out).mono ?_); rintro e w' ⟨rfl, ⟨nd, rfl⟩⟩; refine ⟨_, rfl, ?_⟩))
                      go_ret
                      exact ⟨by first | rfl | (simp; done) | (simp [*]; done), by repeat (first | exact Drawn0.refl _ | apply Drawn0.step)⟩
              · rw [if_neg c21] at H
                have c21b0 : ((decide ((wrap64 (a0 - (wrap64 (t117 * a1)))) < 0)) == (decide (a0 < 0))) = false := by simpa using c21
                (try (have c21b1 : decide ((decide ((wrap64 (a0 - (wrap64 (t117 * a1)))) < 0)) = (decide (a0 < 0))) = false := by simpa using c21))
                (try (have c21b2 : ((decide ((wrap64 (a0 - (wrap64 (t117 * a1)))) < 0)) == (decide (a0 < 0))) = false := by simpa using c21))
                (try (have c21b3 : ¬ ((decide ((wrap64 (a0 - (wrap64 (t117 * a1)))) < 0)) = (decide (a0 < 0))) := by simpa using c21))
                clear c21
                obtain rfl := Option.some.inj H
                go_wp2_with (first | ((with_reducible refine gate_callee (f := 15) rfl ?_); refine goesL_ (some 104) rfl rfl Try.func15 (by kernel_rfl) rfl #[.string (⟨#[45]⟩ : ByteArray), .int .i64 t101, .int .i64 a1] rfl (by (try simp only [List.map_toArray, List.map_cons, List.map_nil]); first | done | rfl | (simp only [List.length_drop, List.length_take]; rfl)) ?_; (with_reducible refine (reduce_Do.calls (⟨#[45]⟩ : ByteArray) t101 a1 t121 t122 t123 t124 _ A16.out).mono ?_); rintro e w' ⟨rfl, ⟨nd, rfl⟩⟩; refine ⟨_, rfl, ?_⟩))
                go_ret
                exact ⟨by first | rfl | (simp; done) | (simp [*]; done), by repeat (first | exact Drawn0.refl _ | apply Drawn0.step)⟩
          · rw [if_neg c19] at H
            have c19b0 : (t121 == a0) = false := beq_eq_false_iff_ne.mpr c19
            have c19b1 : (t121 != a0) = true := bne_iff_ne.mpr c19
            obtain rfl := Option.some.inj H
            go_wp2_with (first | ((with_reducible refine gate_callee (f := 15) rfl ?_); refine goesL_ (some 104) rfl rfl Try.func15 (by kernel_rfl) rfl #[.string (⟨#[45]⟩ : ByteArray), .int .i64 t101, .int .i64 a1] rfl (by (try simp only [List.map_toArray, List.map_cons, List.map_nil]); first | done | rfl | (simp only [List.length_drop, List.length_take]; rfl)) ?_; (with_reducible refine (reduce_Do.calls (⟨#[45]⟩ : ByteArray) t101 a1 t121 t122 t123 t124 _ A16.out).mono ?_); rintro e w' ⟨rfl, ⟨nd, rfl⟩⟩; refine ⟨_, rfl, ?_⟩))
            go_ret
            exact ⟨by first | rfl | (simp; done) | (simp [*]; done), by repeat (first | exact Drawn0.refl _ | apply Drawn0.step)⟩

/-- THE ONE PURE STATEMENT of lychgatelaw17_ReduceReckons: yours. -/
def lychgatelaw17_ReduceReckons.Pure : Prop := ∀ (a0 : Int) (a1 : Int), (Lit.int .i64 a0).wf = true → (Lit.int .i64 a1).wf = true → ∃ k, lychgatelaw17_ReduceReckons.f k a0 a1 = some true
theorem lychgatelaw17_ReduceReckons.walk (P : lychgatelaw17_ReduceReckons.Pure) (a0 : Int) (a1 : Int) (w : World) (w0 : (Lit.int .i64 a0).wf = true) (w1 : (Lit.int .i64 a1).wf = true) :
    Calls Try.prog 4 #[.int .i64 a0, .int .i64 a1] w fun e w' => e = .returned (.bool true) ∧ Below w.heap.size w w' := by
  obtain ⟨k, h⟩ := P a0 a1 w0 w1
  refine (lychgatelaw17_ReduceReckons.calls k a0 a1 true w h).mono ?_
  rintro e w' ⟨rfl, hd⟩
  exact ⟨rfl, hd.below⟩

end Go.Proofs.Ytdhkopangbgehaa.PReduceReckons
