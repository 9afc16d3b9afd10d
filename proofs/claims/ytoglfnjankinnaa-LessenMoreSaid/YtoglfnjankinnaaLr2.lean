/- LessenMore: the law's rest, objects 2. No conditions. -/
import Derived.Test.YtoglfnjankinnaaGenX22
import Derived.Test.YtoglfnjankinnaaEngX3
set_option linter.unusedVariables false
set_option linter.unusedSimpArgs false
namespace Go.Proofs.Ytoglfnjankinnaa.E
open Go

noncomputable def rest42 : Code := match Try.f4.body with
  | some (.seq _ (.seq _ (.seq _ (.seq _ (.seq _ c))))) => c
  | _ => .skip
structure MoreI2 (n : Nat) where
  i : Nat
  hi : i ≤ n
set_option maxRecDepth 10000 in
set_option maxHeartbeats 4000000 in
theorem more_rest2 (t A B : Tm) (l m : List Int) (eA eB : Int) (S : Nat) (hS : SpotsS t = S) (hA : atT t l = A) (hB : atT t (l ++ m) = B) (hEA : atE t l = eA) (hEB : atE t (l ++ m) = eB) (hl : l.length ≤ 300) :
    AW Try.prog tab 0 rest42 ⟨164, [(3, .c (.ptr 0 0)), (1, .c (.d (.sl 0 1 (ints l)))), (7, .c (.d (.int .i64 S))), (8, .c (.ptr 1 0)), (9, .c (.d (.int .i64 eA))), (10, .c (.ptr 2 0)), (11, .c (.d (.int .i64 eB)))], [.var (t.cells.map .d), .var (A.cells.map .d), .var (B.cells.map .d), .gone], []⟩
      (afin tab 0 4 Try.f4.results.toList ([] : List AObj).length (fun o σ => o = .ret (.c (.d (.bool true))) ∧ σ = [])) := by
  have cw := lwakes_call
  have cC := At_call t [] (by simp)
  have cD := LAll_call t
  by_cases hb : eA = 0 ∧ eB = 0 ∧ S ≤ 2000
  · obtain ⟨rfl, rfl, hS2⟩ := hb
    have hs : soundE t = 0 := by
      unfold atE at hEA
      split at hEA
      · exact hEA
      · rename_i h; simpa using h
    have hin : inSp (tmSp t) l = true := by
      unfold atE at hEA
      rw [if_neg (by simp [hs])] at hEA
      split at hEA
      · assumption
      · cases hEA
    rw [SpotsS, if_pos hs] at hS
    have hAt : ∀ q, inSp S q = true → atE t q = 0 ∧ atT t q = leT (atB q) t 0 := fun q hq => by
      have : atE t q = 0 := by unfold atE; rw [if_neg (by simp [hs]), hS, if_pos hq]
      exact ⟨this, by rw [atT, if_pos this]⟩
    rw [atT, if_pos hEA] at hA
    rw [atT, if_pos hEB] at hB
    have hC := hAt [] rfl
    have hK := hAt _ (inSp_ran S)
    have cK := At_call t ((List.range S).map (fun i => ((i : Nat) : Int))) (by simp; omega)
    rw [hK.1, hK.2] at cK
    rw [hC.1, hC.2] at cC
    rw [hs, if_pos rfl] at cD
    have s1 := tSame_call (leT (atB []) t 0) t
    rw [sm_none t hs] at s1
    have s2 := tSame_call (leT (atB ((List.range S).map (fun i => ((i : Nat) : Int)))) t 0) (leT leBT t 0)
    rw [sm_all t _ hs (fun i hi => by rw [hS] at hi; exact List.mem_map.2 ⟨i, List.mem_range.2 hi, rfl⟩)] at s2
    have s3 := Terms_call B A
    rw [← hB, ← hA, sm_terms t l m hs, hB, hA] at s3
    have p1 := Spots_call A
    have hsp := sm_spots t l hs
    rw [hA, hS] at hsp
    have p2 := Spots_call (leT leBT t 0)
    rw [sm_no t hs] at p2
    rw [hS] at hin
    clear hA hB hEA hEB hAt hC hK hs hS
    generalize SpotsS A = q at *
    generalize leT leBT t 0 = D at *
    generalize leT (atB []) t 0 = C at *
    generalize leT (atB ((List.range S).map (fun i => ((i : Nat) : Int)))) t 0 = G at *
    obtain ⟨k, name, arg, num, tk, tks, uk, uks, label, place, ks⟩ := t
    obtain ⟨kA, nA, gA, uA, tkA, tsA, ukA, usA, lA, pA, ksA⟩ := A
    obtain ⟨kB, nB, gB, uB, tkB, tsB, ukB, usB, lB, pB, ksB⟩ := B
    obtain ⟨kC, nC, gC, uC, tkC, tsC, ukC, usC, lC, pC, ksC⟩ := C
    obtain ⟨kD, nD, gD, uD, tkD, tsD, ukD, usD, lD, pD, ksD⟩ := D
    obtain ⟨kG, nG, gG, uG, tkG, tsG, ukG, usG, lG, pG, ksG⟩ := G
    repeat' first
      | refine AW.seq ?_
      | refine AW.block ?_
      | (refine AW.region tab_ok ?_; conv => whnf)
      | (refine AW.drawT (id := 5) tab_ok mixed [0, 1, 2, 4, 3, 5, 6, 7, 8, 9, 10, 11, 12] (.op 0 (.op 1 (.op 2 (.op 4 (.alt (.op 3 (.alt (.op 5 (.alt (.op 6 (.op 7 (.alt (.op 8 (.alt (.op 9 (.op 10 (.op 11 (.op 12 .nil)))) (.op 10 (.alt (.op 9 (.op 11 (.op 12 .nil))) (.op 11 (.op 9 (.op 12 .nil))))))) (.alt (.op 9 (.alt (.op 8 (.op 10 (.op 11 (.op 12 .nil)))) (.op 10 (.op 8 (.op 11 (.op 12 .nil)))))) (.op 10 (.alt (.op 8 (.alt (.op 9 (.op 11 (.op 12 .nil))) (.op 11 (.op 9 (.op 12 .nil))))) (.op 9 (.op 8 (.op 11 (.op 12 .nil)))))))))) (.op 10 (.op 6 (.op 7 (.alt (.op 8 (.alt (.op 9 (.op 11 (.op 12 .nil))) (.op 11 (.op 9 (.op 12 .nil))))) (.op 9 (.op 8 (.op 11 (.op 12 .nil)))))))))) (.op 10 (.op 5 (.op 6 (.op 7 (.alt (.op 8 (.alt (.op 9 (.op 11 (.op 12 .nil))) (.op 11 (.op 9 (.op 12 .nil))))) (.op 9 (.op 8 (.op 11 (.op 12 .nil))))))))))) (.op 10 (.op 3 (.op 5 (.op 6 (.op 7 (.alt (.op 8 (.alt (.op 9 (.op 11 (.op 12 .nil))) (.op 11 (.op 9 (.op 12 .nil))))) (.op 9 (.op 8 (.op 11 (.op 12 .nil))))))))))))))) (by kernel_rfl) ?_; conv => whnf)
      | (refine Fork.mk ?_ ?_ <;> conv => whnf)
      | (refine AW.cond ?_; conv => whnf)
      | (refine AW.skip ?_; conv => whnf)
      | (refine AW.ret ?_; conv => whnf)
      | (refine AW.exit ?_; conv => whnf)
      | (refine (cw).mono ?_; rintro _ _ ⟨rfl, rfl⟩; conv => whnf)
      | (refine (cC).mono ?_; rintro _ _ ⟨rfl, rfl⟩; conv => whnf)
      | (refine (cD).mono ?_; rintro _ _ ⟨rfl, rfl⟩; conv => whnf)
      | (refine And.intro (@rfl Val _) ?_; conv => whnf)
      | (refine And.intro (by decide) ?_; conv => whnf)
      | (refine cs (fun _ => ?_) (fun _ => ?_) <;> conv => whnf)
    · exact ⟨rfl, rfl⟩
    refine ⟨⟨by omega, Int.le_refl _, by simp only; omega, by omega⟩, ?_⟩
    conv => whnf
    repeat' first
      | refine AW.seq ?_
      | refine AW.block ?_
      | (refine AW.region tab_ok ?_; conv => whnf)
      | (refine AW.drawT (id := 5) tab_ok mixed [0, 1, 2, 4, 3, 5, 6, 7, 8, 9, 10, 11, 12] (.op 0 (.op 1 (.op 2 (.op 4 (.alt (.op 3 (.alt (.op 5 (.alt (.op 6 (.op 7 (.alt (.op 8 (.alt (.op 9 (.op 10 (.op 11 (.op 12 .nil)))) (.op 10 (.alt (.op 9 (.op 11 (.op 12 .nil))) (.op 11 (.op 9 (.op 12 .nil))))))) (.alt (.op 9 (.alt (.op 8 (.op 10 (.op 11 (.op 12 .nil)))) (.op 10 (.op 8 (.op 11 (.op 12 .nil)))))) (.op 10 (.alt (.op 8 (.alt (.op 9 (.op 11 (.op 12 .nil))) (.op 11 (.op 9 (.op 12 .nil))))) (.op 9 (.op 8 (.op 11 (.op 12 .nil)))))))))) (.op 10 (.op 6 (.op 7 (.alt (.op 8 (.alt (.op 9 (.op 11 (.op 12 .nil))) (.op 11 (.op 9 (.op 12 .nil))))) (.op 9 (.op 8 (.op 11 (.op 12 .nil)))))))))) (.op 10 (.op 5 (.op 6 (.op 7 (.alt (.op 8 (.alt (.op 9 (.op 11 (.op 12 .nil))) (.op 11 (.op 9 (.op 12 .nil))))) (.op 9 (.op 8 (.op 11 (.op 12 .nil))))))))))) (.op 10 (.op 3 (.op 5 (.op 6 (.op 7 (.alt (.op 8 (.alt (.op 9 (.op 11 (.op 12 .nil))) (.op 11 (.op 9 (.op 12 .nil))))) (.op 9 (.op 8 (.op 11 (.op 12 .nil))))))))))))))) (by kernel_rfl) ?_; conv => whnf)
      | (refine Fork.mk ?_ ?_ <;> conv => whnf)
      | (refine AW.cond ?_; conv => whnf)
      | (refine AW.skip ?_; conv => whnf)
      | (refine AW.ret ?_; conv => whnf)
      | (refine AW.exit ?_; conv => whnf)
      | (refine (cw).mono ?_; rintro _ _ ⟨rfl, rfl⟩; conv => whnf)
      | (refine (cC).mono ?_; rintro _ _ ⟨rfl, rfl⟩; conv => whnf)
      | (refine (cD).mono ?_; rintro _ _ ⟨rfl, rfl⟩; conv => whnf)
      | (refine And.intro (@rfl Val _) ?_; conv => whnf)
      | (refine And.intro (by decide) ?_; conv => whnf)
      | (refine cs (fun _ => ?_) (fun _ => ?_) <;> conv => whnf)
    refine AW.loop (ι := MoreI2 l.length) (fun x => ⟨164, [(18, .c (.d (.int .i64 x.i))), (17, .c (.d (.int .i64 (cntB (atB (l.take x.i)) 0 S : Nat)))), (16, .c (.own 6 S)), (3, .c (.ptr 0 0)), (1, .c (.d (.sl 0 1 (ints l)))), (7, .c (.d (.int .i64 S))), (8, .c (.ptr 1 0)), (10, .c (.ptr 2 0)), (12, .c (.ptr 4 0)), (13, .c (.d (.int .i64 0))), (14, .c (.ptr 5 0)), (15, .c (.d (.int .i64 0)))],
        [.var ((Tm.node k name arg num tk tks uk uks label place ks).cells.map .d), .var ((Tm.node kA nA gA uA tkA tsA ukA usA lA pA ksA).cells.map .d), .var ((Tm.node kB nB gB uB tkB tsB ukB usB lB pB ksB).cells.map .d), .gone, .var ((Tm.node kC nC gC uC tkC tsC ukC usC lC pC ksC).cells.map .d), .var ((Tm.node kD nD gD uD tkD tsD ukD usD lD pD ksD).cells.map .d), .row 3 1 (ints (metL (l.take x.i) S))], []⟩)
      (fun x => l.length - x.i) ⟨0, Nat.zero_le _⟩ 7 (fun _ => rfl) (Nat.le_of_ble_eq_true rfl) ⟨⟨rfl, by simp only [List.take_zero, cntB_nil]; rfl, rfl, rfl, rfl, rfl, rfl, rfl, rfl, rfl, rfl, rfl, trivial⟩, rfl, rfl, ⟨[], by simp only [List.take_zero, metL_nil]; rfl⟩, rfl⟩ (fun x => ?_)
    obtain ⟨i, hi⟩ := x
    repeat' first
      | refine AW.seq ?_
      | refine AW.block ?_
      | (refine AW.region tab_ok ?_; conv => whnf)
      | (refine AW.drawT (id := 5) tab_ok mixed [0, 1, 2, 4, 3, 5, 6, 7, 8, 9, 10, 11, 12] (.op 0 (.op 1 (.op 2 (.op 4 (.alt (.op 3 (.alt (.op 5 (.alt (.op 6 (.op 7 (.alt (.op 8 (.alt (.op 9 (.op 10 (.op 11 (.op 12 .nil)))) (.op 10 (.alt (.op 9 (.op 11 (.op 12 .nil))) (.op 11 (.op 9 (.op 12 .nil))))))) (.alt (.op 9 (.alt (.op 8 (.op 10 (.op 11 (.op 12 .nil)))) (.op 10 (.op 8 (.op 11 (.op 12 .nil)))))) (.op 10 (.alt (.op 8 (.alt (.op 9 (.op 11 (.op 12 .nil))) (.op 11 (.op 9 (.op 12 .nil))))) (.op 9 (.op 8 (.op 11 (.op 12 .nil)))))))))) (.op 10 (.op 6 (.op 7 (.alt (.op 8 (.alt (.op 9 (.op 11 (.op 12 .nil))) (.op 11 (.op 9 (.op 12 .nil))))) (.op 9 (.op 8 (.op 11 (.op 12 .nil)))))))))) (.op 10 (.op 5 (.op 6 (.op 7 (.alt (.op 8 (.alt (.op 9 (.op 11 (.op 12 .nil))) (.op 11 (.op 9 (.op 12 .nil))))) (.op 9 (.op 8 (.op 11 (.op 12 .nil))))))))))) (.op 10 (.op 3 (.op 5 (.op 6 (.op 7 (.alt (.op 8 (.alt (.op 9 (.op 11 (.op 12 .nil))) (.op 11 (.op 9 (.op 12 .nil))))) (.op 9 (.op 8 (.op 11 (.op 12 .nil))))))))))))))) (by kernel_rfl) ?_; conv => whnf)
      | (refine Fork.mk ?_ ?_ <;> conv => whnf)
      | (refine AW.cond ?_; conv => whnf)
      | (refine AW.skip ?_; conv => whnf)
      | (refine AW.ret ?_; conv => whnf)
      | (refine AW.exit ?_; conv => whnf)
      | (refine (cw).mono ?_; rintro _ _ ⟨rfl, rfl⟩; conv => whnf)
      | (refine And.intro (@rfl Val _) ?_; conv => whnf)
      | (refine And.intro (by decide) ?_; conv => whnf)
      | (refine cs (fun _ => ?_) (fun _ => ?_) <;> conv => whnf)
    · rename_i g1
      have hlt : i < l.length := by have := of_decide_eq_true g1; rw [ints_len] at this; simp only at this; omega
      have g1 : (i : Int) < ((ints l).length : Nat) := by rw [ints_len]; omega
      obtain ⟨s, hs1⟩ : ∃ s, l[i]? = some s := ⟨_, List.getElem?_eq_getElem hlt⟩
      have hsS := List.all_eq_true.1 hin s (List.mem_of_getElem? hs1)
      simp only [Bool.and_eq_true, decide_eq_true_eq] at hsS
      obtain ⟨s, rfl⟩ := Int.eq_ofNat_of_zero_le hsS.1
      have hsS : s < S := by omega
      have htk : l.take (i + 1) = l.take i ++ [(s : Int)] := by rw [List.take_add_one, hs1]; rfl
      have hcnt := cntB_snoc (l.take i) s S hsS
      have hcle := cntB_le (atB (l.take i)) 0 S
      have e1 : ∀ row, (ints l)[((i : Nat) : Int).toNat]? = some row → [DV.int .i64 (s : Int)] = row := fun row h => by
        rw [Int.toNat_natCast, ints, List.getElem?_map, hs1] at h
        exact Option.some.inj h
      have f1 : 0 ≤ (i : Int) ∧ (i : Int) < ((ints l).length : Nat) := ⟨by omega, g1⟩
      have hlen : S = (ints (metL (l.take i) S)).length := by rw [ints_len, metL_len]
      have f2 : S = (ints (metL (l.take i) S)).length ∧ 0 ≤ (s : Int) ∧ (s : Int) < ((ints (metL (l.take i) S)).length : Nat) := ⟨hlen, by omega, by rw [← hlen]; omega⟩
      have f3 : S = (ints (metL (l.take i) S)).length ∧ (s : Int).toNat < (ints (metL (l.take i) S)).length := ⟨hlen, by rw [← hlen]; omega⟩
      have e2 : ∀ row, (ints (metL (l.take i) S))[(s : Int).toNat]? = some row → [DV.int .i64 (if (s : Int) ∈ l.take i then 1 else 0)] = row := fun row h => by
        rw [Int.toNat_natCast, ints, List.getElem?_map, metL_get _ _ _ hsS] at h
        exact Option.some.inj h
      by_cases hm : (s : Int) ∈ l.take i
      · rw [if_pos hm] at e2 hcnt
        refine ⟨f1, fun row hrow => ?_⟩
        obtain rfl := e1 row hrow
        conv => whnf
        repeat' first
          | ((refine And.intro f1 fun row hrow => ?_; obtain rfl := e1 row hrow; conv => whnf))
          | ((refine And.intro f2 ?_; conv => whnf))
          | ((refine And.intro f3 fun row hrow => ?_; obtain rfl := e2 row hrow; conv => whnf))
          | ((refine And.intro f3 ?_; conv => whnf))
          | refine AW.seq ?_
          | refine AW.block ?_
          | (refine AW.region tab_ok ?_; conv => whnf)
          | (refine AW.drawT (id := 5) tab_ok mixed [0, 1, 2, 4, 3, 5, 6, 7, 8, 9, 10, 11, 12] (.op 0 (.op 1 (.op 2 (.op 4 (.alt (.op 3 (.alt (.op 5 (.alt (.op 6 (.op 7 (.alt (.op 8 (.alt (.op 9 (.op 10 (.op 11 (.op 12 .nil)))) (.op 10 (.alt (.op 9 (.op 11 (.op 12 .nil))) (.op 11 (.op 9 (.op 12 .nil))))))) (.alt (.op 9 (.alt (.op 8 (.op 10 (.op 11 (.op 12 .nil)))) (.op 10 (.op 8 (.op 11 (.op 12 .nil)))))) (.op 10 (.alt (.op 8 (.alt (.op 9 (.op 11 (.op 12 .nil))) (.op 11 (.op 9 (.op 12 .nil))))) (.op 9 (.op 8 (.op 11 (.op 12 .nil)))))))))) (.op 10 (.op 6 (.op 7 (.alt (.op 8 (.alt (.op 9 (.op 11 (.op 12 .nil))) (.op 11 (.op 9 (.op 12 .nil))))) (.op 9 (.op 8 (.op 11 (.op 12 .nil)))))))))) (.op 10 (.op 5 (.op 6 (.op 7 (.alt (.op 8 (.alt (.op 9 (.op 11 (.op 12 .nil))) (.op 11 (.op 9 (.op 12 .nil))))) (.op 9 (.op 8 (.op 11 (.op 12 .nil))))))))))) (.op 10 (.op 3 (.op 5 (.op 6 (.op 7 (.alt (.op 8 (.alt (.op 9 (.op 11 (.op 12 .nil))) (.op 11 (.op 9 (.op 12 .nil))))) (.op 9 (.op 8 (.op 11 (.op 12 .nil))))))))))))))) (by kernel_rfl) ?_; conv => whnf)
          | (refine Fork.mk ?_ ?_ <;> conv => whnf)
          | (refine AW.cond ?_; conv => whnf)
          | (refine AW.skip ?_; conv => whnf)
          | (refine AW.ret ?_; conv => whnf)
          | (refine AW.exit ?_; conv => whnf)
          | (refine (cw).mono ?_; rintro _ _ ⟨rfl, rfl⟩; conv => whnf)
          | (refine And.intro (@rfl Val _) ?_; conv => whnf)
          | (refine And.intro (by decide) ?_; conv => whnf)
          | (refine cs (fun _ => ?_) (fun _ => ?_) <;> conv => whnf)
        · rename_i h; have h := of_decide_eq_true h; omega
        · rw [wrap64 (x := ((i : Nat) : Int) + 1) (by omega) (by omega)]
          exact ⟨⟨i + 1, hlt⟩, ⟨⟨rfl, by simp only [htk, hcnt]; rfl, rfl, rfl, rfl, rfl, rfl, rfl, rfl, rfl, rfl, rfl, trivial⟩, rfl, rfl, ⟨[], by simp only [htk, ← metL_set _ _ _ hsS, ← ints_set]; rfl⟩, rfl⟩, show l.length - (i + 1) < l.length - i by omega⟩
      · rw [if_neg hm] at e2 hcnt
        refine ⟨f1, fun row hrow => ?_⟩
        obtain rfl := e1 row hrow
        conv => whnf
        repeat' first
          | ((refine And.intro f1 fun row hrow => ?_; obtain rfl := e1 row hrow; conv => whnf))
          | ((refine And.intro f2 ?_; conv => whnf))
          | ((refine And.intro f3 fun row hrow => ?_; obtain rfl := e2 row hrow; conv => whnf))
          | ((refine And.intro f3 ?_; conv => whnf))
          | refine AW.seq ?_
          | refine AW.block ?_
          | (refine AW.region tab_ok ?_; conv => whnf)
          | (refine AW.drawT (id := 5) tab_ok mixed [0, 1, 2, 4, 3, 5, 6, 7, 8, 9, 10, 11, 12] (.op 0 (.op 1 (.op 2 (.op 4 (.alt (.op 3 (.alt (.op 5 (.alt (.op 6 (.op 7 (.alt (.op 8 (.alt (.op 9 (.op 10 (.op 11 (.op 12 .nil)))) (.op 10 (.alt (.op 9 (.op 11 (.op 12 .nil))) (.op 11 (.op 9 (.op 12 .nil))))))) (.alt (.op 9 (.alt (.op 8 (.op 10 (.op 11 (.op 12 .nil)))) (.op 10 (.op 8 (.op 11 (.op 12 .nil)))))) (.op 10 (.alt (.op 8 (.alt (.op 9 (.op 11 (.op 12 .nil))) (.op 11 (.op 9 (.op 12 .nil))))) (.op 9 (.op 8 (.op 11 (.op 12 .nil)))))))))) (.op 10 (.op 6 (.op 7 (.alt (.op 8 (.alt (.op 9 (.op 11 (.op 12 .nil))) (.op 11 (.op 9 (.op 12 .nil))))) (.op 9 (.op 8 (.op 11 (.op 12 .nil)))))))))) (.op 10 (.op 5 (.op 6 (.op 7 (.alt (.op 8 (.alt (.op 9 (.op 11 (.op 12 .nil))) (.op 11 (.op 9 (.op 12 .nil))))) (.op 9 (.op 8 (.op 11 (.op 12 .nil))))))))))) (.op 10 (.op 3 (.op 5 (.op 6 (.op 7 (.alt (.op 8 (.alt (.op 9 (.op 11 (.op 12 .nil))) (.op 11 (.op 9 (.op 12 .nil))))) (.op 9 (.op 8 (.op 11 (.op 12 .nil))))))))))))))) (by kernel_rfl) ?_; conv => whnf)
          | (refine Fork.mk ?_ ?_ <;> conv => whnf)
          | (refine AW.cond ?_; conv => whnf)
          | (refine AW.skip ?_; conv => whnf)
          | (refine AW.ret ?_; conv => whnf)
          | (refine AW.exit ?_; conv => whnf)
          | (refine (cw).mono ?_; rintro _ _ ⟨rfl, rfl⟩; conv => whnf)
          | (refine And.intro (@rfl Val _) ?_; conv => whnf)
          | (refine And.intro (by decide) ?_; conv => whnf)
          | (refine cs (fun _ => ?_) (fun _ => ?_) <;> conv => whnf)
        · rename_i h; have h := of_decide_eq_true h; omega
        · rw [wrap64 (x := ((i : Nat) : Int) + 1) (by omega) (by omega)]
          rw [wrap64 (x := ((cntB (atB (l.take i)) 0 S : Nat) : Int) + 1) (by omega) (by omega)]
          exact ⟨⟨i + 1, hlt⟩, ⟨⟨rfl, by simp only [htk, hcnt]; rfl, rfl, rfl, rfl, rfl, rfl, rfl, rfl, rfl, rfl, rfl, trivial⟩, rfl, rfl, ⟨[], by simp only [htk, ← metL_set _ _ _ hsS, ← ints_set]; rfl⟩, rfl⟩, show l.length - (i + 1) < l.length - i by omega⟩
    rename_i g1
    have := of_decide_eq_false g1
    rw [ints_len] at this
    simp only at this
    obtain rfl : i = l.length := by omega
    have hcle := cntB_le (atB l) 0 S
    refine AW.loop (ι := MoreI2 S) (fun x => ⟨164, [(19, .c (.d (.int .i64 x.i))), (17, .c (.d (.int .i64 (cntB (atB l) 0 S : Nat)))), (16, .c (.own 6 S)), (3, .c (.ptr 0 0)), (7, .c (.d (.int .i64 S))), (8, .c (.ptr 1 0)), (10, .c (.ptr 2 0)), (12, .c (.ptr 4 0)), (13, .c (.d (.int .i64 0))), (14, .c (.ptr 5 0)), (15, .c (.d (.int .i64 0)))],
        [.var ((Tm.node k name arg num tk tks uk uks label place ks).cells.map .d), .var ((Tm.node kA nA gA uA tkA tsA ukA usA lA pA ksA).cells.map .d), .var ((Tm.node kB nB gB uB tkB tsB ukB usB lB pB ksB).cells.map .d), .gone, .var ((Tm.node kC nC gC uC tkC tsC ukC usC lC pC ksC).cells.map .d), .var ((Tm.node kD nD gD uD tkD tsD ukD usD lD pD ksD).cells.map .d), .row 3 1 (ints (ranL (metL l S) x.i))], []⟩)
      (fun x => S - x.i) ⟨0, Nat.zero_le _⟩ 7 (fun _ => rfl) (Nat.le_of_ble_eq_true rfl) ⟨⟨rfl, by simp only [List.take_length]; rfl, rfl, rfl, rfl, rfl, rfl, rfl, rfl, rfl, rfl, trivial⟩, rfl, rfl, ⟨[], by simp only [List.take_length, ranL_zero]; rfl⟩, rfl⟩ (fun x => ?_)
    obtain ⟨j, hj⟩ := x
    have hrl : S = (ints (ranL (metL l S) j)).length := by rw [ints_len, ranL_len _ _ (by rw [metL_len]; exact hj), metL_len]
    repeat' first
      | refine AW.seq ?_
      | refine AW.block ?_
      | (refine AW.region tab_ok ?_; conv => whnf)
      | (refine AW.drawT (id := 5) tab_ok mixed [0, 1, 2, 4, 3, 5, 6, 7, 8, 9, 10, 11, 12] (.op 0 (.op 1 (.op 2 (.op 4 (.alt (.op 3 (.alt (.op 5 (.alt (.op 6 (.op 7 (.alt (.op 8 (.alt (.op 9 (.op 10 (.op 11 (.op 12 .nil)))) (.op 10 (.alt (.op 9 (.op 11 (.op 12 .nil))) (.op 11 (.op 9 (.op 12 .nil))))))) (.alt (.op 9 (.alt (.op 8 (.op 10 (.op 11 (.op 12 .nil)))) (.op 10 (.op 8 (.op 11 (.op 12 .nil)))))) (.op 10 (.alt (.op 8 (.alt (.op 9 (.op 11 (.op 12 .nil))) (.op 11 (.op 9 (.op 12 .nil))))) (.op 9 (.op 8 (.op 11 (.op 12 .nil)))))))))) (.op 10 (.op 6 (.op 7 (.alt (.op 8 (.alt (.op 9 (.op 11 (.op 12 .nil))) (.op 11 (.op 9 (.op 12 .nil))))) (.op 9 (.op 8 (.op 11 (.op 12 .nil)))))))))) (.op 10 (.op 5 (.op 6 (.op 7 (.alt (.op 8 (.alt (.op 9 (.op 11 (.op 12 .nil))) (.op 11 (.op 9 (.op 12 .nil))))) (.op 9 (.op 8 (.op 11 (.op 12 .nil))))))))))) (.op 10 (.op 3 (.op 5 (.op 6 (.op 7 (.alt (.op 8 (.alt (.op 9 (.op 11 (.op 12 .nil))) (.op 11 (.op 9 (.op 12 .nil))))) (.op 9 (.op 8 (.op 11 (.op 12 .nil))))))))))))))) (by kernel_rfl) ?_; conv => whnf)
      | (refine Fork.mk ?_ ?_ <;> conv => whnf)
      | (refine AW.cond ?_; conv => whnf)
      | (refine AW.skip ?_; conv => whnf)
      | (refine AW.ret ?_; conv => whnf)
      | (refine AW.exit ?_; conv => whnf)
      | (refine (cw).mono ?_; rintro _ _ ⟨rfl, rfl⟩; conv => whnf)
      | (refine And.intro (@rfl Val _) ?_; conv => whnf)
      | (refine And.intro (by decide) ?_; conv => whnf)
      | (refine cs (fun _ => ?_) (fun _ => ?_) <;> conv => whnf)
    · rename_i g2
      have g2 := of_decide_eq_true g2
      simp only at g2
      have hlt : j < S := by omega
      have f3 : S = (ints (ranL (metL l S) j)).length ∧ ((j : Nat) : Int).toNat < (ints (ranL (metL l S) j)).length := ⟨hrl, by rw [Int.toNat_natCast, ← hrl]; exact hlt⟩
      refine ⟨⟨hrl, by simp only; omega, by simp only; omega⟩, ?_⟩
      conv => whnf
      repeat' first
        | ((refine And.intro f3 ?_; conv => whnf))
        | refine AW.seq ?_
        | refine AW.block ?_
        | (refine AW.region tab_ok ?_; conv => whnf)
        | (refine AW.drawT (id := 5) tab_ok mixed [0, 1, 2, 4, 3, 5, 6, 7, 8, 9, 10, 11, 12] (.op 0 (.op 1 (.op 2 (.op 4 (.alt (.op 3 (.alt (.op 5 (.alt (.op 6 (.op 7 (.alt (.op 8 (.alt (.op 9 (.op 10 (.op 11 (.op 12 .nil)))) (.op 10 (.alt (.op 9 (.op 11 (.op 12 .nil))) (.op 11 (.op 9 (.op 12 .nil))))))) (.alt (.op 9 (.alt (.op 8 (.op 10 (.op 11 (.op 12 .nil)))) (.op 10 (.op 8 (.op 11 (.op 12 .nil)))))) (.op 10 (.alt (.op 8 (.alt (.op 9 (.op 11 (.op 12 .nil))) (.op 11 (.op 9 (.op 12 .nil))))) (.op 9 (.op 8 (.op 11 (.op 12 .nil)))))))))) (.op 10 (.op 6 (.op 7 (.alt (.op 8 (.alt (.op 9 (.op 11 (.op 12 .nil))) (.op 11 (.op 9 (.op 12 .nil))))) (.op 9 (.op 8 (.op 11 (.op 12 .nil)))))))))) (.op 10 (.op 5 (.op 6 (.op 7 (.alt (.op 8 (.alt (.op 9 (.op 11 (.op 12 .nil))) (.op 11 (.op 9 (.op 12 .nil))))) (.op 9 (.op 8 (.op 11 (.op 12 .nil))))))))))) (.op 10 (.op 3 (.op 5 (.op 6 (.op 7 (.alt (.op 8 (.alt (.op 9 (.op 11 (.op 12 .nil))) (.op 11 (.op 9 (.op 12 .nil))))) (.op 9 (.op 8 (.op 11 (.op 12 .nil))))))))))))))) (by kernel_rfl) ?_; conv => whnf)
        | (refine Fork.mk ?_ ?_ <;> conv => whnf)
        | (refine AW.cond ?_; conv => whnf)
        | (refine AW.skip ?_; conv => whnf)
        | (refine AW.ret ?_; conv => whnf)
        | (refine AW.exit ?_; conv => whnf)
        | (refine (cw).mono ?_; rintro _ _ ⟨rfl, rfl⟩; conv => whnf)
        | (refine And.intro (@rfl Val _) ?_; conv => whnf)
        | (refine And.intro (by decide) ?_; conv => whnf)
        | (refine cs (fun _ => ?_) (fun _ => ?_) <;> conv => whnf)
      rw [wrap64 (x := ((j : Nat) : Int) + 1) (by omega) (by omega)]
      exact ⟨⟨j + 1, hlt⟩, ⟨⟨rfl, rfl, rfl, rfl, rfl, rfl, rfl, rfl, rfl, rfl, rfl, trivial⟩, rfl, rfl, ⟨[], by simp only [← ranL_set _ _ (by rw [metL_len]; exact hlt : j < (metL l S).length), ← ints_set]; rfl⟩, rfl⟩, show S - (j + 1) < S - j by omega⟩
    rename_i g2
    have g2 := of_decide_eq_false g2
    simp only at g2
    obtain rfl : j = S := by omega
    rw [ranL_in _ _ (metL_len l j)]
    have hlr : j = (ints ((List.range j).map (fun i => ((i : Nat) : Int)))).length := by simp [ints_len]
    repeat' first
      | ((refine And.intro hlr ?_; conv => whnf))
      | refine AW.seq ?_
      | refine AW.block ?_
      | (refine AW.region tab_ok ?_; conv => whnf)
      | (refine AW.drawT (id := 5) tab_ok mixed [0, 1, 2, 4, 3, 5, 6, 7, 8, 9, 10, 11, 12] (.op 0 (.op 1 (.op 2 (.op 4 (.alt (.op 3 (.alt (.op 5 (.alt (.op 6 (.op 7 (.alt (.op 8 (.alt (.op 9 (.op 10 (.op 11 (.op 12 .nil)))) (.op 10 (.alt (.op 9 (.op 11 (.op 12 .nil))) (.op 11 (.op 9 (.op 12 .nil))))))) (.alt (.op 9 (.alt (.op 8 (.op 10 (.op 11 (.op 12 .nil)))) (.op 10 (.op 8 (.op 11 (.op 12 .nil)))))) (.op 10 (.alt (.op 8 (.alt (.op 9 (.op 11 (.op 12 .nil))) (.op 11 (.op 9 (.op 12 .nil))))) (.op 9 (.op 8 (.op 11 (.op 12 .nil)))))))))) (.op 10 (.op 6 (.op 7 (.alt (.op 8 (.alt (.op 9 (.op 11 (.op 12 .nil))) (.op 11 (.op 9 (.op 12 .nil))))) (.op 9 (.op 8 (.op 11 (.op 12 .nil)))))))))) (.op 10 (.op 5 (.op 6 (.op 7 (.alt (.op 8 (.alt (.op 9 (.op 11 (.op 12 .nil))) (.op 11 (.op 9 (.op 12 .nil))))) (.op 9 (.op 8 (.op 11 (.op 12 .nil))))))))))) (.op 10 (.op 3 (.op 5 (.op 6 (.op 7 (.alt (.op 8 (.alt (.op 9 (.op 11 (.op 12 .nil))) (.op 11 (.op 9 (.op 12 .nil))))) (.op 9 (.op 8 (.op 11 (.op 12 .nil))))))))))))))) (by kernel_rfl) ?_; conv => whnf)
      | (refine Fork.mk ?_ ?_ <;> conv => whnf)
      | (refine AW.cond ?_; conv => whnf)
      | (refine AW.skip ?_; conv => whnf)
      | (refine AW.ret ?_; conv => whnf)
      | (refine AW.exit ?_; conv => whnf)
      | (refine (cw).mono ?_; rintro _ _ ⟨rfl, rfl⟩; conv => whnf)
      | (refine (cK).mono ?_; rintro _ _ ⟨rfl, rfl⟩; conv => whnf)
      | (refine (s1).mono ?_; rintro _ _ ⟨rfl, rfl⟩; conv => whnf)
      | (refine (s2).mono ?_; rintro _ _ ⟨rfl, rfl⟩; conv => whnf)
      | (refine (s3).mono ?_; rintro _ _ ⟨rfl, rfl⟩; conv => whnf)
      | (refine (p1).mono ?_; rintro _ _ ⟨rfl, rfl⟩; conv => whnf)
      | (refine (p2).mono ?_; rintro _ _ ⟨rfl, rfl⟩; conv => whnf)
      | (refine And.intro (@rfl Val _) ?_; conv => whnf)
      | (refine And.intro (by decide) ?_; conv => whnf)
      | (refine cs (fun _ => ?_) (fun _ => ?_) <;> conv => whnf)
    · exact ⟨rfl, rfl⟩
    · rename_i h
      exfalso
      have h := of_decide_eq_false h
      rw [wrap64 (by omega) (by omega)] at h
      omega
  · generalize (if soundE t = 0 then leT leBT t 0 else tm0) = D at *
    generalize soundE t = eD at *
    generalize atE t [] = eC at *
    generalize atT t [] = C at *
    obtain ⟨k, name, arg, num, tk, tks, uk, uks, label, place, ks⟩ := t
    obtain ⟨kA, nA, gA, uA, tkA, tsA, ukA, usA, lA, pA, ksA⟩ := A
    obtain ⟨kB, nB, gB, uB, tkB, tsB, ukB, usB, lB, pB, ksB⟩ := B
    obtain ⟨kC, nC, gC, uC, tkC, tsC, ukC, usC, lC, pC, ksC⟩ := C
    obtain ⟨kD, nD, gD, uD, tkD, tsD, ukD, usD, lD, pD, ksD⟩ := D
    repeat' first
      | refine AW.seq ?_
      | refine AW.block ?_
      | (refine AW.region tab_ok ?_; conv => whnf)
      | (refine AW.drawT (id := 5) tab_ok mixed [0, 1, 2, 4, 3, 5, 6, 7, 8, 9, 10, 11, 12] (.op 0 (.op 1 (.op 2 (.op 4 (.alt (.op 3 (.alt (.op 5 (.alt (.op 6 (.op 7 (.alt (.op 8 (.alt (.op 9 (.op 10 (.op 11 (.op 12 .nil)))) (.op 10 (.alt (.op 9 (.op 11 (.op 12 .nil))) (.op 11 (.op 9 (.op 12 .nil))))))) (.alt (.op 9 (.alt (.op 8 (.op 10 (.op 11 (.op 12 .nil)))) (.op 10 (.op 8 (.op 11 (.op 12 .nil)))))) (.op 10 (.alt (.op 8 (.alt (.op 9 (.op 11 (.op 12 .nil))) (.op 11 (.op 9 (.op 12 .nil))))) (.op 9 (.op 8 (.op 11 (.op 12 .nil)))))))))) (.op 10 (.op 6 (.op 7 (.alt (.op 8 (.alt (.op 9 (.op 11 (.op 12 .nil))) (.op 11 (.op 9 (.op 12 .nil))))) (.op 9 (.op 8 (.op 11 (.op 12 .nil)))))))))) (.op 10 (.op 5 (.op 6 (.op 7 (.alt (.op 8 (.alt (.op 9 (.op 11 (.op 12 .nil))) (.op 11 (.op 9 (.op 12 .nil))))) (.op 9 (.op 8 (.op 11 (.op 12 .nil))))))))))) (.op 10 (.op 3 (.op 5 (.op 6 (.op 7 (.alt (.op 8 (.alt (.op 9 (.op 11 (.op 12 .nil))) (.op 11 (.op 9 (.op 12 .nil))))) (.op 9 (.op 8 (.op 11 (.op 12 .nil))))))))))))))) (by kernel_rfl) ?_; conv => whnf)
      | (refine Fork.mk ?_ ?_ <;> conv => whnf)
      | (refine AW.cond ?_; conv => whnf)
      | (refine AW.skip ?_; conv => whnf)
      | (refine AW.ret ?_; conv => whnf)
      | (refine AW.exit ?_; conv => whnf)
      | (refine (cw).mono ?_; rintro _ _ ⟨rfl, rfl⟩; conv => whnf)
      | (refine (cC).mono ?_; rintro _ _ ⟨rfl, rfl⟩; conv => whnf)
      | (refine (cD).mono ?_; rintro _ _ ⟨rfl, rfl⟩; conv => whnf)
      | (refine And.intro (@rfl Val _) ?_; conv => whnf)
      | (refine And.intro (by decide) ?_; conv => whnf)
      | (refine cs (fun _ => ?_) (fun _ => ?_) <;> conv => whnf)
    · exact ⟨rfl, rfl⟩
    · exact ⟨rfl, rfl⟩
    · exact ⟨rfl, rfl⟩
    · rename_i h1 h2 h3
      exfalso
      simp at h1 h2 h3
      omega
end Go.Proofs.Ytoglfnjankinnaa.E
