/- The law CastsWrapped. No conditions. -/
import Derived.Test.YtoglfnjankinnaaCs9
set_option linter.unusedVariables false
set_option linter.unusedSimpArgs false
namespace Go.Proofs.Ytoglfnjankinnaa.E
open Go

set_option maxRecDepth 10000 in
theorem Of_call (k : Int) (a b : Ty) : ACall Try.prog 14 [.c (.d (.int .i8 k)), a.val, b.val] [] (fun o σ => o = .ret (Ty.node k [a, b]).val ∧ σ = []) := by
  obtain ⟨tk, tks⟩ := a
  obtain ⟨uk, uks⟩ := b
  refine ACall.body tab_ok (ρ := 0) (N := 12) Try.func14 rfl rfl rfl rfl rfl ?_
  repeat' first
    | refine AW.seq ?_
    | refine AW.block ?_
    | (refine AW.region tab_ok ?_; conv => whnf)
    | (refine AW.cond ?_; conv => whnf)
    | (refine AW.skip ?_; conv => whnf)
    | (refine AW.ret ?_; conv => whnf)
    | (refine AW.exit ?_; conv => whnf)
    | (refine And.intro (@rfl Val _) ?_; conv => whnf)
    | (refine And.intro (by decide) ?_; conv => whnf)
    | (refine cs (fun _ => ?_) (fun _ => ?_) <;> conv => whnf)
  exact ⟨rfl, rfl⟩
set_option maxRecDepth 10000 in
set_option maxHeartbeats 4000000 in
theorem law_CastsWrapped (t : Tm) (a b : Ty) (lab : Int) (hl1 : -9223372036854775808 ≤ lab) (hl2 : lab ≤ 9223372036854775807) : ACall Try.prog 3 [t.val, a.val, b.val, .c (.d (.int .i64 lab))] [] (fun o σ => o = .ret (.c (.d (.bool true))) ∧ σ = []) := by
  have cw := wakes14_call
  have c1 := tmCheck_call t
  have c2 := All_call t
  have c3 := All_call (castT t a b lab)
  have c4 := All_call (twoT (castT t a b lab) t)
  have c5 := tmCheck_call (twoT (castT t a b lab) t)
  by_cases h0 : tmcheck t = 0
  · rw [h0] at c1
    by_cases hv : tmcheck (twoT (castT t a b lab) t) = 0
    · rw [hv] at c5
      obtain ⟨ka, kas⟩ := a
      obtain ⟨kb, kbs⟩ := b
      have c6 := Height_call t
      have c7 := Of_call 4 (.node ka kas) (.node kb kbs)
      have c8 := Height_call (lamT (.node ka kas) (.node kb kbs))
      have c9 := Same_call (.node ka kas) (.node ka kas)
      have c10 := Same_call (.node kb kbs) (.node kb kbs)
      have c11 := Height_call (castT t (.node ka kas) (.node kb kbs) lab)
      have c12 := Erase_call (castT t (.node ka kas) (.node kb kbs) lab)
      have c13 := Erase_call t
      have hN := tmcheck_N h0
      have c14 := likeTm_call (tmEraseS t) (by rw [show tmEraseS t = tmerase t by simp [tmEraseS, h0]]; exact erase_fine t hN (tmcheck_right h0))
      obtain ⟨f1, f2, f3, f4, f5, f6, f7⟩ := wrapped_facts hv
      have f1' : tcastsS (castT t (.node ka kas) (.node kb kbs) lab) = Ct.mk ka kas kb kbs lab :: tcastsS t := f1
      have hlen : (tcastsS t).length ≤ 8192 := by
        rw [show tcastsS t = tcasts t by simp [tcastsS, h0]]
        exact Nat.le_trans (tcasts_len t) hN
      have hh1 : tmHeight (lamT (.node ka kas) (.node kb kbs)) ≤ 16385 := by
        obtain ⟨q1, _, _⟩ := tmcheck_parts (lam_check hv)
        obtain ⟨ca, cb, _, _, _, _⟩ := cast_types (show tmcheck (castT t (.node ka kas) (.node kb kbs) lab) = 0 from tmcheck_kid hv (by simp))
        have h1 := tyH_le (.node ka kas)
        have h2 := tyH_le (.node kb kbs)
        have h3 := (tcheck_parts ca).1
        have h4 := (tcheck_parts cb).1
        simp only [tmHeight, lam_check hv, if_true]
        have e2 : tmH (lamT (.node ka kas) (.node kb kbs)) = 1 + max (tyH (.node ka kas)) (tyH (.node kb kbs)) := by
          simp only [lamT, tmH, tmHL, tyH, tyHL]
          rw [if_pos (show typeK 4 = true from rfl), if_neg (show ¬ toK 4 = true by decide), if_neg (show ¬ typeK 2 = true by decide), if_neg (show ¬ toK 2 = true by decide)]
          omega
        rw [e2]
        omega
      rw [f2, f1'] at c4
      rw [f1'] at c3
      rw [f5] at c12
      rw [f6] at c9
      rw [f7] at c10
      have hw1 : IntKind.i64.wrap (((tmHeight (lamT (.node ka kas) (.node kb kbs)) : Nat) : Int) - 1) = ((tmHeight (lamT (.node ka kas) (.node kb kbs)) : Nat) : Int) - 1 := wrap64 (by omega) (by omega)
      have hw2 : max ((tmHeight t : Nat) : Int) (((tmHeight (lamT (.node ka kas) (.node kb kbs)) : Nat) : Int) - 1) = ((tmHeight (castT t (.node ka kas) (.node kb kbs) lab) : Nat) : Int) := by rw [f3]; omega
      clear f1 f1' f2 f3 f5 f6 f7 h0 hv hN
      generalize tmHeight t = ht at *
      generalize tmHeight (lamT (.node ka kas) (.node kb kbs)) = hl at *
      generalize tmHeight (castT t (.node ka kas) (.node kb kbs) lab) = hu at *
      generalize tmEraseS t = u at *
      generalize tcastsS t = l at *
      obtain ⟨k, name, arg, num, tk, tks, uk, uks, label, place, ks⟩ := t
      obtain ⟨ku, nameu, argu, numu, tku, tksu, uku, uksu, labelu, placeu, ksu⟩ := u
      have x1 : crows (Ct.mk ka kas kb kbs lab :: l) = [.int .i8 ka, .sl 0 2 (Ty.rows kas), .int .i8 kb, .sl 0 2 (Ty.rows kbs), .int .i64 lab] :: crows l := rfl
      have x2 : crows (Ct.mk ka kas kb kbs lab :: l ++ l) = ([.int .i8 ka, .sl 0 2 (Ty.rows kas), .int .i8 kb, .sl 0 2 (Ty.rows kbs), .int .i64 lab] :: crows l) ++ crows l := by simp [crows, Ct.cells]
      have hlr : (crows l).length ≤ 8192 := by rw [crows_length]; exact hlen
      rw [x1] at c3
      rw [x2] at c4
      cases l with
      | nil =>
        have x3 : crows [] = [] := rfl
        rw [x3] at *
        clear x1 x2 x3 hlen hlr
        refine ACall.body tab_ok (ρ := 0) (N := 129) Try.func3 rfl rfl rfl rfl rfl ?_
        skip
        repeat' first
          | ((refine ⟨by simp, fun row hrow => ?_⟩; simp at hrow; subst hrow; conv => whnf))
          | refine AW.seq ?_
          | refine AW.block ?_
          | (refine AW.region tab_ok ?_; conv => whnf)
          | (refine AW.draw (id := 10) tab_ok mixed [0, 2, 3, 5, 6, 1, 4, 7, 8, 9, 10, 11] (by kernel_rfl) ?_; conv => whnf)
          | (refine AW.draw (id := 11) tab_ok mixed [0, 1, 2, 3, 4, 5, 6, 7, 8, 9, 10, 11, 12, 13, 14, 15, 16, 17, 18, 19, 20, 21, 22, 23, 24, 25, 26, 27, 28, 29, 30, 31, 32, 33, 34, 35, 36, 37, 38, 39, 40, 41, 42, 43, 44, 45, 46, 47, 48, 49, 50, 51, 52, 53, 54, 55, 56, 57, 58, 59, 61, 60, 62, 63, 64, 65, 67, 66, 68, 69, 70, 71, 72, 73, 74] (by kernel_rfl) ?_; conv => whnf)
          | (refine AW.cond ?_; conv => whnf)
          | (refine AW.skip ?_; conv => whnf)
          | (refine AW.ret ?_; conv => whnf)
          | (refine AW.exit ?_; conv => whnf)
          | (refine (c1).mono ?_; rintro _ _ ⟨rfl, rfl⟩; conv => whnf)
          | (refine (c2).mono ?_; rintro _ _ ⟨rfl, rfl⟩; conv => whnf)
          | (refine (c3).mono ?_; rintro _ _ ⟨rfl, rfl⟩; conv => whnf)
          | (refine (c4).mono ?_; rintro _ _ ⟨rfl, rfl⟩; conv => whnf)
          | (refine (c5).mono ?_; rintro _ _ ⟨rfl, rfl⟩; conv => whnf)
          | (refine (c6).mono ?_; rintro _ _ ⟨rfl, rfl⟩; conv => whnf)
          | (refine (c7).mono ?_; rintro _ _ ⟨rfl, rfl⟩; conv => whnf)
          | (refine (c8).mono ?_; rintro _ _ ⟨rfl, rfl⟩; conv => whnf)
          | (refine (c9).mono ?_; rintro _ _ ⟨rfl, rfl⟩; conv => whnf)
          | (refine (c10).mono ?_; rintro _ _ ⟨rfl, rfl⟩; conv => whnf)
          | (refine (c11).mono ?_; rintro _ _ ⟨rfl, rfl⟩; conv => whnf)
          | (refine (c12).mono ?_; rintro _ _ ⟨rfl, rfl⟩; conv => whnf)
          | (refine (c13).mono ?_; rintro _ _ ⟨rfl, rfl⟩; conv => whnf)
          | (refine (c14).mono ?_; rintro _ _ ⟨rfl, rfl⟩; conv => whnf)
          | (refine (cw).mono ?_; rintro _ _ ⟨rfl, rfl⟩; conv => whnf)
          | (refine And.intro (@rfl Val _) ?_; conv => whnf)
          | (refine And.intro (by decide) ?_; conv => whnf)
          | (refine cs (fun _ => ?_) (fun _ => ?_) <;> conv => whnf)
        all_goals first
          | exact ⟨rfl, rfl⟩
          | (clear c1 c2 c3 c4 c5 c6 c7 c8 c9 c10 c11 c12 c13 c14 cw
             exfalso
             simp_all
             done)
          | (clear c1 c2 c3 c4 c5 c6 c7 c8 c9 c10 c11 c12 c13 c14 cw
             trace_state)
      | cons c0 l0 =>
        obtain ⟨tk0, tks0, uk0, uks0, lab0⟩ := c0
        have x3 : crows (Ct.mk tk0 tks0 uk0 uks0 lab0 :: l0) = [.int .i8 tk0, .sl 0 2 (Ty.rows tks0), .int .i8 uk0, .sl 0 2 (Ty.rows uks0), .int .i64 lab0] :: crows l0 := rfl
        rw [x3] at c2 c3 c4 hlr
        generalize crows l0 = r0 at *
        clear x1 x2 x3 hlen
        generalize hA : ([.int .i8 ka, .sl 0 2 (Ty.rows kas), .int .i8 kb, .sl 0 2 (Ty.rows kbs), .int .i64 lab] : List DV) = A at c3 c4
        generalize hB : ([.int .i8 tk0, .sl 0 2 (Ty.rows tks0), .int .i8 uk0, .sl 0 2 (Ty.rows uks0), .int .i64 lab0] : List DV) = B at c2 c3 c4 hlr
        have hb1 : (0 : Int) ≤ ((A :: B :: r0).length : Int) ∧ ((A :: B :: r0).length : Int) < ((A :: B :: r0 ++ B :: r0).length : Int) := ⟨by omega, by simp only [List.length_append, List.length_cons]; omega⟩
        have hget : (A :: B :: r0 ++ B :: r0)[((A :: B :: r0).length : Int).toNat]? = some B := by rw [Int.toNat_natCast, List.getElem?_append_right (by omega)]; simp
        have hw3 : IntKind.i64.wrap (((B :: r0).length : Int) + 1) = ((A :: B :: r0).length : Int) := by rw [wrap64 (by omega) (by omega)]; simp only [List.length_cons]; omega
        have hw4 : IntKind.i64.wrap (((B :: r0).length : Int) + ((A :: B :: r0).length : Int)) = ((A :: B :: r0 ++ B :: r0).length : Int) := by
          simp only [List.length_cons] at hlr
          rw [wrap64 (by simp only [List.length_cons]; omega) (by simp only [List.length_cons]; omega)]
          simp only [List.length_append, List.length_cons]; omega
        have hb0 : ∀ (X : List DV) (R : List (List DV)), (0 : Int) ≤ (0 : Int) ∧ (0 : Int) < ((X :: R).length : Int) := fun X R => ⟨by omega, by simp only [List.length_cons]; omega⟩
        refine ACall.body tab_ok (ρ := 0) (N := 129) Try.func3 rfl rfl rfl rfl rfl ?_
        skip
        repeat' first
          | ((refine ⟨hb1, fun row hrow => ?_⟩; cases Option.some.inj (hget.symm.trans hrow); clear hrow; first | subst hB | skip; conv => whnf))
          | ((refine ⟨hb0 _ _, fun row hrow => ?_⟩; cases hrow; first | subst hA | subst hB | skip; conv => whnf))
          | refine AW.seq ?_
          | refine AW.block ?_
          | (refine AW.region tab_ok ?_; conv => whnf)
          | (refine AW.draw (id := 10) tab_ok mixed [0, 2, 3, 5, 6, 1, 4, 7, 8, 9, 10, 11] (by kernel_rfl) ?_; conv => whnf)
          | (refine AW.draw (id := 11) tab_ok mixed [0, 1, 2, 3, 4, 5, 6, 7, 8, 9, 10, 11, 12, 13, 14, 15, 16, 17, 18, 19, 20, 21, 22, 23, 24, 25, 26, 27, 28, 29, 30, 31, 32, 33, 34, 35, 36, 37, 38, 39, 40, 41, 42, 43, 44, 45, 46, 47, 48, 49, 50, 51, 52, 53, 54, 55, 56, 57, 58, 59, 61, 60, 62, 63, 64, 65, 67, 66, 68, 69, 70, 71, 72, 73, 74] (by kernel_rfl) ?_; conv => whnf)
          | (refine AW.cond ?_; conv => whnf)
          | (refine AW.skip ?_; conv => whnf)
          | (refine AW.ret ?_; conv => whnf)
          | (refine AW.exit ?_; conv => whnf)
          | (refine (c1).mono ?_; rintro _ _ ⟨rfl, rfl⟩; conv => whnf)
          | (refine (c2).mono ?_; rintro _ _ ⟨rfl, rfl⟩; conv => whnf)
          | (refine (c3).mono ?_; rintro _ _ ⟨rfl, rfl⟩; conv => whnf)
          | (refine (c4).mono ?_; rintro _ _ ⟨rfl, rfl⟩; conv => whnf)
          | (refine (c5).mono ?_; rintro _ _ ⟨rfl, rfl⟩; conv => whnf)
          | (refine (c6).mono ?_; rintro _ _ ⟨rfl, rfl⟩; conv => whnf)
          | (refine (c7).mono ?_; rintro _ _ ⟨rfl, rfl⟩; conv => whnf)
          | (refine (c8).mono ?_; rintro _ _ ⟨rfl, rfl⟩; conv => whnf)
          | (refine (c9).mono ?_; rintro _ _ ⟨rfl, rfl⟩; conv => whnf)
          | (refine (c10).mono ?_; rintro _ _ ⟨rfl, rfl⟩; conv => whnf)
          | (refine (c11).mono ?_; rintro _ _ ⟨rfl, rfl⟩; conv => whnf)
          | (refine (c12).mono ?_; rintro _ _ ⟨rfl, rfl⟩; conv => whnf)
          | (refine (c13).mono ?_; rintro _ _ ⟨rfl, rfl⟩; conv => whnf)
          | (refine (c14).mono ?_; rintro _ _ ⟨rfl, rfl⟩; conv => whnf)
          | (refine (cw).mono ?_; rintro _ _ ⟨rfl, rfl⟩; conv => whnf)
          | (refine And.intro (@rfl Val _) ?_; conv => whnf)
          | (refine And.intro (by decide) ?_; conv => whnf)
          | (refine cs (fun _ => ?_) (fun _ => ?_) <;> conv => whnf)
        all_goals first
          | exact ⟨rfl, rfl⟩
          | (clear c1 c2 c3 c4 c5 c6 c7 c8 c9 c10 c11 c12 c13 c14 cw
             exfalso
             simp_all
             done)
          | (clear c1 c2 c3 c4 c5 c6 c7 c8 c9 c10 c11 c12 c13 c14 cw
             trace_state)
    · have e4 : tcastsS (twoT (castT t a b lab) t) = [] := by simp [tcastsS, hv]
      have hb : (tmcheck (twoT (castT t a b lab) t) != 0) = true := by simpa using hv
      rw [e4] at c4
      clear e4 hv h0
      generalize tcastsS (castT t a b lab) = m at *
      generalize tcastsS t = l at *
      generalize tmcheck (twoT (castT t a b lab) t) = cv at *
      obtain ⟨k, name, arg, num, tk, tks, uk, uks, label, place, ks⟩ := t
      obtain ⟨ka, kas⟩ := a
      obtain ⟨kb, kbs⟩ := b
      refine ACall.body tab_ok (ρ := 0) (N := 129) Try.func3 rfl rfl rfl rfl rfl ?_
      skip
      repeat' first
        | refine AW.seq ?_
        | refine AW.block ?_
        | (refine AW.region tab_ok ?_; conv => whnf)
        | (refine AW.draw (id := 10) tab_ok mixed [0, 2, 3, 5, 6, 1, 4, 7, 8, 9, 10, 11] (by kernel_rfl) ?_; conv => whnf)
        | (refine AW.draw (id := 11) tab_ok mixed [0, 1, 2, 3, 4, 5, 6, 7, 8, 9, 10, 11, 12, 13, 14, 15, 16, 17, 18, 19, 20, 21, 22, 23, 24, 25, 26, 27, 28, 29, 30, 31, 32, 33, 34, 35, 36, 37, 38, 39, 40, 41, 42, 43, 44, 45, 46, 47, 48, 49, 50, 51, 52, 53, 54, 55, 56, 57, 58, 59, 61, 60, 62, 63, 64, 65, 67, 66, 68, 69, 70, 71, 72, 73, 74] (by kernel_rfl) ?_; conv => whnf)
        | (refine AW.cond ?_; conv => whnf)
        | (refine AW.skip ?_; conv => whnf)
        | (refine AW.ret ?_; conv => whnf)
        | (refine AW.exit ?_; conv => whnf)
        | (refine (c1).mono ?_; rintro _ _ ⟨rfl, rfl⟩; conv => whnf)
        | (refine (c2).mono ?_; rintro _ _ ⟨rfl, rfl⟩; conv => whnf)
        | (refine (c3).mono ?_; rintro _ _ ⟨rfl, rfl⟩; conv => whnf)
        | (refine (c4).mono ?_; rintro _ _ ⟨rfl, rfl⟩; conv => whnf)
        | (refine (c5).mono ?_; rintro _ _ ⟨rfl, rfl⟩; conv => whnf)
        | (refine (cw).mono ?_; rintro _ _ ⟨rfl, rfl⟩; conv => whnf)
        | (refine And.intro (@rfl Val _) ?_; conv => whnf)
        | (refine And.intro (by decide) ?_; conv => whnf)
        | (refine cs (fun _ => ?_) (fun _ => ?_) <;> conv => whnf)
      all_goals first
        | exact ⟨rfl, rfl⟩
        | (exfalso; rename_i h; rw [hb] at h; cases h)
        | (clear c1 c2 c3 c4 c5 cw
           trace_state)
  · have hb : (tmcheck t != 0) = true := by simpa using h0
    clear c2 c3 c4 c5 h0
    generalize tmcheck t = cc at *
    obtain ⟨k, name, arg, num, tk, tks, uk, uks, label, place, ks⟩ := t
    obtain ⟨ka, kas⟩ := a
    obtain ⟨kb, kbs⟩ := b
    refine ACall.body tab_ok (ρ := 0) (N := 129) Try.func3 rfl rfl rfl rfl rfl ?_
    skip
    repeat' first
      | refine AW.seq ?_
      | refine AW.block ?_
      | (refine AW.region tab_ok ?_; conv => whnf)
      | (refine AW.draw (id := 10) tab_ok mixed [0, 2, 3, 5, 6, 1, 4, 7, 8, 9, 10, 11] (by kernel_rfl) ?_; conv => whnf)
      | (refine AW.draw (id := 11) tab_ok mixed [0, 1, 2, 3, 4, 5, 6, 7, 8, 9, 10, 11, 12, 13, 14, 15, 16, 17, 18, 19, 20, 21, 22, 23, 24, 25, 26, 27, 28, 29, 30, 31, 32, 33, 34, 35, 36, 37, 38, 39, 40, 41, 42, 43, 44, 45, 46, 47, 48, 49, 50, 51, 52, 53, 54, 55, 56, 57, 58, 59, 61, 60, 62, 63, 64, 65, 67, 66, 68, 69, 70, 71, 72, 73, 74] (by kernel_rfl) ?_; conv => whnf)
      | (refine AW.cond ?_; conv => whnf)
      | (refine AW.skip ?_; conv => whnf)
      | (refine AW.ret ?_; conv => whnf)
      | (refine AW.exit ?_; conv => whnf)
      | (refine (c1).mono ?_; rintro _ _ ⟨rfl, rfl⟩; conv => whnf)
      | (refine (cw).mono ?_; rintro _ _ ⟨rfl, rfl⟩; conv => whnf)
      | (refine And.intro (@rfl Val _) ?_; conv => whnf)
      | (refine And.intro (by decide) ?_; conv => whnf)
      | (refine cs (fun _ => ?_) (fun _ => ?_) <;> conv => whnf)
    all_goals first
      | exact ⟨rfl, rfl⟩
      | (exfalso; rename_i h; rw [hb] at h; cases h)
      | trace_state
end Go.Proofs.Ytoglfnjankinnaa.E
