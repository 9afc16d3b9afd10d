/- Walks: the laws' wakes on casts; the law CastsSides. No conditions. -/
import Derived.Test.YtdhkopangbgehaaCs7
set_option linter.unusedVariables false
set_option linter.unusedSimpArgs false
namespace Go.Proofs.Ytdhkopangbgehaa.E
open Go

def tmW : Tm := (.node 17 ⟨#[]⟩ ⟨#[]⟩ 0 0 [] 1 [] 5 0 [.node 17 ⟨#[]⟩ ⟨#[]⟩ 0 1 [] 0 [] 2 0 [.node 1 ⟨#[]⟩ ⟨#[]⟩ 7 0 [] 0 [] 0 0 []]])
theorem tmW_casts : tcastsS tmW = [.mk 0 [] 1 [] 5, .mk 1 [] 0 [] 2] := by
  unfold tcastsS
  rw [if_pos (by decide +kernel)]
  rfl
theorem tmW_erase : tmEraseS tmW = .node 1 ⟨#[]⟩ ⟨#[]⟩ 7 0 [] 0 [] 0 0 [] := by
  unfold tmEraseS
  rw [if_pos (by decide +kernel)]
  rfl
set_option maxRecDepth 10000 in
set_option maxHeartbeats 1000000 in
theorem wakes14_call : ACall Try.prog 60 [] [] (fun o σ => o = .ret (.c (.d (.bool true))) ∧ σ = []) := by
  have c1 := All_call tmW
  rw [tmW_casts, show crows [.mk 0 [] 1 [] 5, .mk 1 [] 0 [] 2] = [[.int .i8 0, .sl 0 2 [], .int .i8 1, .sl 0 2 [], .int .i64 5], [.int .i8 1, .sl 0 2 [], .int .i8 0, .sl 0 2 [], .int .i64 2]] from rfl] at c1
  have c2 := Safe_call tmW 5 (by omega) (by omega)
  rw [show safeS 5 tmW = (false, true) by decide +kernel] at c2
  have c3 := Safe_call tmW 2 (by omega) (by omega)
  rw [show safeS 2 tmW = (true, true) by decide +kernel] at c3
  have c4 := Erase_call tmW
  rw [tmW_erase] at c4
  have c5 := Height_call tmW
  rw [show tmHeight tmW = 1 by decide +kernel] at c5
  have c6 := Same_call (.node 1 []) (.node 1 [])
  rw [show sameS (.node 1 []) (.node 1 []) = true by decide +kernel] at c6
  refine ACall.body tab_ok (ρ := 0) (N := 81) Try.func60 rfl rfl rfl rfl rfl ?_
  repeat' first
    | ((refine ⟨by simp, fun row hrow => ?_⟩; simp at hrow; subst hrow; conv => whnf))
    | refine AW.seq ?_
    | refine AW.block ?_
    | (refine AW.region tab_ok ?_; conv => whnf)
    | (refine AW.draw (id := 7) tab_ok mixed [0, 1, 2, 3, 4, 5, 6, 7, 8, 9, 10, 11, 12, 13, 14, 15, 16, 17, 18, 19, 20, 21, 22, 23, 24, 25, 26, 27, 28, 29, 30, 31, 32, 33, 34, 35, 36, 37, 38, 39, 40, 41, 42, 43, 44, 45, 46, 47, 48, 49] (by kernel_rfl) ?_; conv => whnf)
    | (refine AW.cond ?_; conv => whnf)
    | (refine AW.skip ?_; conv => whnf)
    | (refine AW.ret ?_; conv => whnf)
    | (refine AW.exit ?_; conv => whnf)
    | (refine (c1).mono ?_; rintro _ _ ⟨rfl, rfl⟩; conv => whnf)
    | (refine (c2).mono ?_; rintro _ _ ⟨rfl, rfl⟩; conv => whnf)
    | (refine (c3).mono ?_; rintro _ _ ⟨rfl, rfl⟩; conv => whnf)
    | (refine (c4).mono ?_; rintro _ _ ⟨rfl, rfl⟩; conv => whnf)
    | (refine (c5).mono ?_; rintro _ _ ⟨rfl, rfl⟩; conv => whnf)
    | (refine (c6).mono ?_; rintro _ _ ⟨rfl, rfl⟩; conv => whnf)
    | (refine And.intro (@rfl Val _) ?_; conv => whnf)
    | (refine And.intro (by decide) ?_; conv => whnf)
    | (refine cs (fun _ => ?_) (fun _ => ?_) <;> conv => whnf)
  all_goals first | exact ⟨rfl, rfl⟩ | trace_state
structure SidesI (l : List Ct) where
  i : Nat
  hi : i ≤ l.length
set_option maxRecDepth 10000 in
set_option maxHeartbeats 2000000 in
theorem law_CastsSides (t : Tm) (lab : Int) (hl1 : -9223372036854775808 ≤ lab) (hl2 : lab ≤ 9223372036854775807) : ACall Try.prog 14 [t.val, .c (.d (.int .i64 lab))] [] (fun o σ => o = .ret (.c (.d (.bool true))) ∧ σ = []) := by
  have cw := wakes14_call
  by_cases hmin : lab = -9223372036854775808
  · subst hmin
    obtain ⟨k, name, arg, num, tk, tks, uk, uks, label, place, ks⟩ := t
    refine ACall.body tab_ok (ρ := 0) (N := 146) Try.func14 rfl rfl rfl rfl rfl ?_
    skip
    repeat' first
      | refine AW.seq ?_
      | refine AW.block ?_
      | (refine AW.region tab_ok ?_; conv => whnf)
      | (refine AW.draw (id := 16) tab_ok mixed [0, 1, 2, 3, 4, 5, 6, 9, 10, 11, 12, 13, 7, 8, 14, 15, 16] (by kernel_rfl) ?_; conv => whnf)
      | (refine AW.draw (id := 18) tab_ok mixed [0, 1, 2, 3, 4, 5, 6, 7, 8, 9, 10, 11, 12, 13, 14, 15, 16, 17, 19, 18, 20, 21, 22] (by kernel_rfl) ?_; conv => whnf)
      | (refine AW.draw (id := 20) tab_ok mixed [0, 2, 5, 1, 3, 4, 6, 7, 8, 10, 9, 11, 12, 13, 14, 15, 16, 17] (by kernel_rfl) ?_; conv => whnf)
      | (refine AW.cond ?_; conv => whnf)
      | (refine AW.skip ?_; conv => whnf)
      | (refine AW.ret ?_; conv => whnf)
      | (refine AW.exit ?_; conv => whnf)
      | (refine (cw).mono ?_; rintro _ _ ⟨rfl, rfl⟩; conv => whnf)
      | (refine And.intro (@rfl Val _) ?_; conv => whnf)
      | (refine And.intro (by decide) ?_; conv => whnf)
      | (refine cs (fun _ => ?_) (fun _ => ?_) <;> conv => whnf)
    all_goals exact ⟨rfl, rfl⟩
  · have hm2 : (lab == -9223372036854775808) = false := by simpa using hmin
    have hl1 : -9223372036854775807 ≤ lab := by omega
    have c1 := Safe_call t lab hl1 hl2
    have c2 := Safe_call t (-lab) (by omega) (by omega)
    rw [safeS_swap] at c2
    have c3 := All_call t
    have c4 := Erase_call t
    have c5 := tmCheck_call t
    have c6 := Height_call t
    have c7 := tnodes_call t
    have d1 := All_call (tmEraseS t)
    have d2 := Erase_call (tmEraseS t)
    have d3 := Height_call (tmEraseS t)
    have d4 := tnodes_call (tmEraseS t)
    have hw : IntKind.i64.wrap (0 - lab) = -lab := by rw [wrap64 (by omega) (by omega)]; omega
    by_cases h0 : tmcheck t = 0
    · have hr := tmcheck_right h0
      have hN := tmcheck_N h0
      have e1 : tmEraseS t = tmerase t := by simp [tmEraseS, h0]
      have e2 := erase_check h0
      have e3 : tcastsS t = tcasts t := by simp [tcastsS, h0]
      have e4 : tcastsS (tmEraseS t) = [] := by rw [e1]; simp [tcastsS, e2, erase_casts t hr]
      have e5 : tmEraseS (tmEraseS t) = tmEraseS t := by rw [e1]; simp [tmEraseS, e2, erase_erase t hr]
      have e6 : tmN t = tmN (tmEraseS t) + castN (tcasts t) := by rw [e1]; exact erase_N t hr
      have e7 : tmHeight (tmEraseS t) ≤ tmHeight t := by rw [e1]; simp [tmHeight, h0, e2]; exact erase_H t hr
      have e8 : safeS lab t = sfold lab (true, true) (tcasts t) := by simp [safeS, h0]
      have d5 := likeTm_call (tmEraseS t) (by rw [e1]; exact erase_fine t hN hr)
      have e9 : (tcasts t).any (isLab lab) = false → safeS lab t = (true, true) := fun h => by rw [e8]; exact sfold_none lab _ _ h
      rw [e3] at c3
      rw [e4] at d1
      rw [e5] at d2
      rw [h0] at c5
      have hlen := tcasts_len t
      generalize tcasts t = l at *
      generalize tmEraseS t = u at *
      generalize safeS lab t = s at *
      generalize tmHeight t = ht at *
      generalize tmHeight u = hu at *
      generalize hnt : tmN t = nt at *
      generalize hnu : tmN u = nu at *
      clear e1 e2 e3 e4 e5 e8 h0 hr hnt hnu
      obtain ⟨p, q⟩ := s
      obtain ⟨k, name, arg, num, tk, tks, uk, uks, label, place, ks⟩ := t
      obtain ⟨ku, nameu, argu, numu, tku, tksu, uku, uksu, labelu, placeu, ksu⟩ := u
      refine ACall.body tab_ok (ρ := 0) (N := 146) Try.func14 rfl rfl rfl rfl rfl ?_
      skip
      have hw2 : IntKind.i64.wrap (((min nt 8193 : Nat) : Int) - ((min nu 8193 : Nat) : Int)) = (castN l : Int) := by rw [wrap64 (by omega) (by omega)]; omega
      repeat' first
        | ((rw [hw]; refine c2.mono ?_; rintro _ _ ⟨rfl, rfl⟩; conv => whnf))
        | refine AW.seq ?_
        | refine AW.block ?_
        | (refine AW.region tab_ok ?_; conv => whnf)
        | (refine AW.draw (id := 16) tab_ok mixed [0, 1, 2, 3, 4, 5, 6, 9, 10, 11, 12, 13, 7, 8, 14, 15, 16] (by kernel_rfl) ?_; conv => whnf)
        | (refine AW.draw (id := 18) tab_ok mixed [0, 1, 2, 3, 4, 5, 6, 7, 8, 9, 10, 11, 12, 13, 14, 15, 16, 17, 19, 18, 20, 21, 22] (by kernel_rfl) ?_; conv => whnf)
        | (refine AW.draw (id := 20) tab_ok mixed [0, 2, 5, 1, 3, 4, 6, 7, 8, 10, 9, 11, 12, 13, 14, 15, 16, 17] (by kernel_rfl) ?_; conv => whnf)
        | (refine AW.cond ?_; conv => whnf)
        | (refine AW.skip ?_; conv => whnf)
        | (refine AW.ret ?_; conv => whnf)
        | (refine AW.exit ?_; conv => whnf)
        | (refine (c1).mono ?_; rintro _ _ ⟨rfl, rfl⟩; conv => whnf)
        | (refine (c3).mono ?_; rintro _ _ ⟨rfl, rfl⟩; conv => whnf)
        | (refine (c4).mono ?_; rintro _ _ ⟨rfl, rfl⟩; conv => whnf)
        | (refine (c5).mono ?_; rintro _ _ ⟨rfl, rfl⟩; conv => whnf)
        | (refine (cw).mono ?_; rintro _ _ ⟨rfl, rfl⟩; conv => whnf)
        | (refine And.intro (@rfl Val _) ?_; conv => whnf)
        | (refine And.intro (by decide) ?_; conv => whnf)
        | (refine cs (fun _ => ?_) (fun _ => ?_) <;> conv => whnf)
      all_goals first
        | exact ⟨rfl, rfl⟩
        | (exfalso; rename_i h; simp at h; done)
        | skip
      refine AW.loop (ι := SidesI l) (fun x => ⟨146, [(13, .c (.d (.int .i64 x.i))), (11, .c (.d (.int .i64 (castN (l.take x.i))))), (12, .c (.d (.bool ((l.take x.i).any (isLab lab))))), (9, .c (.d (.sl 0 5 (crows l)))), (5, .c (.d (.bool p))), (6, .c (.d (.bool q))), (1, .c (.d (.int .i64 lab))), (2, .c (.ptr 0 0)), (10, .c (.ptr 1 0))], [.var [.d (.int .i8 k), .d (.str name), .d (.str arg), .d (.int .i64 num), .d (.int .i8 tk), .d (.sl 0 2 (Ty.rows tks)), .d (.int .i8 uk), .d (.sl 0 2 (Ty.rows uks)), .d (.int .i64 label), .d (.int .i64 place), .d (.sl 0 11 (Tm.rows ks))], .var [.d (.int .i8 ku), .d (.str nameu), .d (.str argu), .d (.int .i64 numu), .d (.int .i8 tku), .d (.sl 0 2 (Ty.rows tksu)), .d (.int .i8 uku), .d (.sl 0 2 (Ty.rows uksu)), .d (.int .i64 labelu), .d (.int .i64 placeu), .d (.sl 0 11 (Tm.rows ksu))]], []⟩)
        (fun x => l.length - x.i) ⟨0, Nat.zero_le _⟩ 2 (fun _ => rfl) (Nat.le_of_ble_eq_true rfl) ⟨⟨rfl, rfl, rfl, rfl, rfl, rfl, rfl, rfl, rfl, trivial⟩, rfl, rfl, ⟨[], rfl⟩, rfl⟩ (fun x => ?_)
      obtain ⟨i, hi⟩ := x
      repeat' first
        | refine AW.seq ?_
        | refine AW.block ?_
        | (refine AW.region tab_ok ?_; conv => whnf)
        | (refine AW.draw (id := 16) tab_ok mixed [0, 1, 2, 3, 4, 5, 6, 9, 10, 11, 12, 13, 7, 8, 14, 15, 16] (by kernel_rfl) ?_; conv => whnf)
        | (refine AW.draw (id := 18) tab_ok mixed [0, 1, 2, 3, 4, 5, 6, 7, 8, 9, 10, 11, 12, 13, 14, 15, 16, 17, 19, 18, 20, 21, 22] (by kernel_rfl) ?_; conv => whnf)
        | (refine AW.draw (id := 20) tab_ok mixed [0, 2, 5, 1, 3, 4, 6, 7, 8, 10, 9, 11, 12, 13, 14, 15, 16, 17] (by kernel_rfl) ?_; conv => whnf)
        | (refine AW.cond ?_; conv => whnf)
        | (refine AW.skip ?_; conv => whnf)
        | (refine AW.ret ?_; conv => whnf)
        | (refine AW.exit ?_; conv => whnf)
        | (refine (d1).mono ?_; rintro _ _ ⟨rfl, rfl⟩; conv => whnf)
        | (refine (d2).mono ?_; rintro _ _ ⟨rfl, rfl⟩; conv => whnf)
        | (refine (d5).mono ?_; rintro _ _ ⟨rfl, rfl⟩; conv => whnf)
        | (refine (c7).mono ?_; rintro _ _ ⟨rfl, rfl⟩; conv => whnf)
        | (refine (d4).mono ?_; rintro _ _ ⟨rfl, rfl⟩; conv => whnf)
        | (refine (d3).mono ?_; rintro _ _ ⟨rfl, rfl⟩; conv => whnf)
        | (refine (c6).mono ?_; rintro _ _ ⟨rfl, rfl⟩; conv => whnf)
        | (refine (cw).mono ?_; rintro _ _ ⟨rfl, rfl⟩; conv => whnf)
        | (refine And.intro (@rfl Val _) ?_; conv => whnf)
        | (refine And.intro (by decide) ?_; conv => whnf)
        | (refine cs (fun _ => ?_) (fun _ => ?_) <;> conv => whnf)
      · rename_i h1
        simp only [crows_length] at h1
        have h1 := of_decide_eq_true h1
        have hlt : i < l.length := by omega
        have hg : l[i]? = some l[i] := List.getElem?_eq_getElem hlt
        have hcn := castN_take l i _ hg
        have hcl := castN_le l (i + 1)
        have hta : (l.take (i + 1)).any (isLab lab) = ((l.take i).any (isLab lab) || isLab lab l[i]) := by
          rw [List.take_add_one, hg, List.any_append]; simp only [Option.toList, List.any_cons, List.any_nil, Bool.or_false]
        have hrow : (crows l)[(Int.toNat (i : Int))]? = some (l[i]).cells := by simp [crows, hg]
        have hb : 0 ≤ (i : Int) ∧ (i : Int) < ((crows l).length : Int) := by rw [crows_length]; omega
        generalize l[i] = c at *
        generalize (l.take i).any (isLab lab) = th at *
        obtain ⟨tkc, tksc, ukc, uksc, labelc⟩ := c
        have n1 := nodes_call (.node tkc tksc)
        have n2 := nodes_call (.node ukc uksc)
        simp only [ctN] at hcn
        generalize min (nodes (.node tkc tksc)) 8193 = m1 at *
        generalize min (nodes (.node ukc uksc)) 8193 = m2 at *
        clear c1 c2 c3 c4 c5 c6 c7 d1 d2 d3 d4 d5 cw e9 hw2 hg
        repeat' first
          | ((refine ⟨hb, fun row hr => ?_⟩; rw [hrow] at hr; cases hr; conv => whnf))
          | refine AW.seq ?_
          | refine AW.block ?_
          | (refine AW.region tab_ok ?_; conv => whnf)
          | (refine AW.draw (id := 16) tab_ok mixed [0, 1, 2, 3, 4, 5, 6, 9, 10, 11, 12, 13, 7, 8, 14, 15, 16] (by kernel_rfl) ?_; conv => whnf)
          | (refine AW.draw (id := 18) tab_ok mixed [0, 1, 2, 3, 4, 5, 6, 7, 8, 9, 10, 11, 12, 13, 14, 15, 16, 17, 19, 18, 20, 21, 22] (by kernel_rfl) ?_; conv => whnf)
          | (refine AW.draw (id := 20) tab_ok mixed [0, 2, 5, 1, 3, 4, 6, 7, 8, 10, 9, 11, 12, 13, 14, 15, 16, 17] (by kernel_rfl) ?_; conv => whnf)
          | (refine AW.cond ?_; conv => whnf)
          | (refine AW.skip ?_; conv => whnf)
          | (refine AW.ret ?_; conv => whnf)
          | (refine AW.exit ?_; conv => whnf)
          | (refine (n1).mono ?_; rintro _ _ ⟨rfl, rfl⟩; conv => whnf)
          | (refine (n2).mono ?_; rintro _ _ ⟨rfl, rfl⟩; conv => whnf)
          | (refine And.intro (@rfl Val _) ?_; conv => whnf)
          | (refine And.intro (by decide) ?_; conv => whnf)
          | (refine cs (fun _ => ?_) (fun _ => ?_) <;> conv => whnf)
        all_goals
          rw [wrap64 (x := (i : Int) + 1) (by omega) (by omega), wrap64 (x := ((castN (l.take i) : Nat) : Int) + 1) (by omega) (by omega), wrap64 (x := ((castN (l.take i) : Nat) : Int) + 1 + (m1 : Int)) (by omega) (by omega), wrap64 (x := ((castN (l.take i) : Nat) : Int) + 1 + (m1 : Int) + (m2 : Int)) (by omega) (by omega), show ((castN (l.take i) : Nat) : Int) + 1 + (m1 : Int) + (m2 : Int) = ((castN (l.take (i + 1)) : Nat) : Int) by omega]
          refine ⟨⟨i + 1, hlt⟩, ⟨⟨rfl, rfl, ?_, rfl, rfl, rfl, rfl, rfl, rfl, trivial⟩, rfl, rfl, ⟨[], rfl⟩, rfl⟩, show l.length - (i + 1) < l.length - i by omega⟩
          show Val.c (AV.d (DV.bool _)) = Val.c (AV.d (DV.bool _))
          rw [hta]
          try simp only [hw] at *
          simp only [isLab, ctLab]
          generalize (labelc == lab) = b1 at *
          generalize (labelc == -lab) = b2 at *
          clear hcn hcl hrow hb h1 hlt n1 n2 hw hl1 hl2 hm2
          first | (simp_all; done) | trace_state
      all_goals first
        | exact ⟨rfl, rfl⟩
        | (clear c1 c2 c3 c4 c5 c6 c7 d1 d2 d3 d4 d5 cw
           exfalso
           simp only [crows_length] at *
           have hi2 : i = l.length := by
             simp only [decide_eq_false_iff_not] at *
             omega
           subst hi2
           simp only [List.take_length] at *
           try simp only [hw2] at *
           simp_all
           done)
        | (clear c1 c2 c3 c4 c5 c6 c7 d1 d2 d3 d4 d5 cw
           trace_state)
    · have e1 : safeS lab t = (false, false) := by simp [safeS, h0]
      have e2 : tcastsS t = [] := by simp [tcastsS, h0]
      have e3 : tmHeight t = 0 := by simp [tmHeight, h0]
      rw [e1] at c1 c2
      rw [e2] at c3
      rw [e3] at c6
      have hb : (tmcheck t != 0) = true := by simpa using h0
      clear d1 d2 d3 d4 c7
      generalize tmcheck t = cc at *
      generalize tmEraseS t = u at *
      clear e1 e2 e3 h0
      obtain ⟨k, name, arg, num, tk, tks, uk, uks, label, place, ks⟩ := t
      obtain ⟨ku, nameu, argu, numu, tku, tksu, uku, uksu, labelu, placeu, ksu⟩ := u
      refine ACall.body tab_ok (ρ := 0) (N := 146) Try.func14 rfl rfl rfl rfl rfl ?_
      skip
      repeat' first
        | ((rw [hw]; refine c2.mono ?_; rintro _ _ ⟨rfl, rfl⟩; conv => whnf))
        | refine AW.seq ?_
        | refine AW.block ?_
        | (refine AW.region tab_ok ?_; conv => whnf)
        | (refine AW.draw (id := 16) tab_ok mixed [0, 1, 2, 3, 4, 5, 6, 9, 10, 11, 12, 13, 7, 8, 14, 15, 16] (by kernel_rfl) ?_; conv => whnf)
        | (refine AW.draw (id := 18) tab_ok mixed [0, 1, 2, 3, 4, 5, 6, 7, 8, 9, 10, 11, 12, 13, 14, 15, 16, 17, 19, 18, 20, 21, 22] (by kernel_rfl) ?_; conv => whnf)
        | (refine AW.draw (id := 20) tab_ok mixed [0, 2, 5, 1, 3, 4, 6, 7, 8, 10, 9, 11, 12, 13, 14, 15, 16, 17] (by kernel_rfl) ?_; conv => whnf)
        | (refine AW.cond ?_; conv => whnf)
        | (refine AW.skip ?_; conv => whnf)
        | (refine AW.ret ?_; conv => whnf)
        | (refine AW.exit ?_; conv => whnf)
        | (refine (c1).mono ?_; rintro _ _ ⟨rfl, rfl⟩; conv => whnf)
        | (refine (c3).mono ?_; rintro _ _ ⟨rfl, rfl⟩; conv => whnf)
        | (refine (c4).mono ?_; rintro _ _ ⟨rfl, rfl⟩; conv => whnf)
        | (refine (c5).mono ?_; rintro _ _ ⟨rfl, rfl⟩; conv => whnf)
        | (refine (c6).mono ?_; rintro _ _ ⟨rfl, rfl⟩; conv => whnf)
        | (refine (cw).mono ?_; rintro _ _ ⟨rfl, rfl⟩; conv => whnf)
        | (refine And.intro (@rfl Val _) ?_; conv => whnf)
        | (refine And.intro (by decide) ?_; conv => whnf)
        | (refine cs (fun _ => ?_) (fun _ => ?_) <;> conv => whnf)
      all_goals first
        | exact ⟨rfl, rfl⟩
        | (exfalso; rename_i h; rw [hm2] at h; cases h)
        | (exfalso; rename_i h; rw [hb] at h; cases h)
        | (clear c1 c2 c3 c4 c5 c6 cw
           trace_state)
end Go.Proofs.Ytdhkopangbgehaa.E
