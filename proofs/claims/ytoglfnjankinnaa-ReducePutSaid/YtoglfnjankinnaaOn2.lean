/- The walk of TermsOnce. No conditions. -/
import Derived.Test.YtoglfnjankinnaaOn
import Derived.Test.YtoglfnjankinnaaTm11
set_option linter.unusedVariables false
set_option linter.unusedSimpArgs false
namespace Go.Proofs.Ytoglfnjankinnaa.E
open Go

def tm0 : Tm := .node 0 ⟨#[]⟩ ⟨#[]⟩ 0 0 [] 0 [] 0 0 []
theorem tm0_fine : Fine tm0 := .node (by simp [nodes, nodesL]) (by simp [nodes, nodesL]) (by simp) (by simp)
set_option maxRecDepth 10000 in
theorem law_TermsOnce (t : Tm) : ACall Try.prog 8 [t.val] [] (fun o σ => o = .ret (.c (.d (.bool true))) ∧ σ = []) := by
  have c1 := Bare_call t
  have c2 := tmCheck_call t
  by_cases hc : tmcheck t = 0
  · have hb : tmBareS t = tmbare t := by simp [tmBareS, hc]
    have hbc : tmcheck (tmbare t) = 0 := by rw [tmbare_check, hc]
    obtain ⟨hN, hD, hR⟩ := tmcheck_parts hc
    have c3 := tSame_call t (tmbare t)
    have c4 := tSame_call (tmbare t) t
    rw [show sameT t (tmbare t) = true by simp [sameT, hc, hbc, (tmbare_same t hR).1]] at c3
    rw [show sameT (tmbare t) t = true by simp [sameT, hc, hbc, (tmbare_same t hR).2]] at c4
    have c5 := Bare_call (tmbare t)
    rw [show tmBareS (tmbare t) = tmbare t by simp [tmBareS, hbc, tmbare_twice]] at c5
    have c6 := Whole_call _ (fine_bare t hN)
    have c7 := tFree_call (tmbare t)
    rw [tmbare_free] at c7
    have c8 := tFree_call t
    have c9 := names_call (freeS t) (free_len t)
    have c10 := tnodes_call (tmbare t)
    rw [tmbare_N] at c10
    have c11 := tnodes_call t
    have c12 := tDepth_call (tmbare t)
    rw [show tmDepth (tmbare t) = tmDepth t by simp only [tmDepth, tmbare_N, tmbare_D]] at c12
    have c13 := tDepth_call t
    have hkid : ∀ x ∈ t.kids, tmcheck x = 0 ∧ tmN x < tmN t ∧ tmN x ≤ 8192 ∧ tmDepth x < tmDepth t := by
      obtain ⟨k, name, arg, num, tk, tks, uk, uks, label, place, ks⟩ := t
      intro x hx
      have h1 := tmN_mem ks x hx
      have h2 := (tmD_parts hD).1 x hx
      have h3 := tmcheck_kid hc hx
      have h4 : tmN x < tmN (.node k name arg num tk tks uk uks label place ks) := by simp only [tmN]; omega
      refine ⟨h3, h4, by omega, ?_⟩
      simp only [tmDepth]
      rw [if_neg (by omega), if_neg (by omega)]
      omega
    have hlen : t.kids.length ≤ 8192 := by
      obtain ⟨k, name, arg, num, tk, tks, uk, uks, label, place, ks⟩ := t
      have := tmNL_len ks
      simp only [tmN] at hN
      show ks.length ≤ 8192
      omega
    rw [hb] at c1
    rw [hc] at c2
    generalize tmbare t = m at *
    generalize freeS t = L at *
    generalize hnn : tmN t = nn at *
    generalize hdd : tmDepth t = dd at *
    clear hb hbc hR hD hc hnn hdd
    obtain ⟨k, name, arg, num, tk, tks, uk, uks, label, place, ks⟩ := t
    obtain ⟨kx, namex, argx, numx, tkx, tksx, ukx, uksx, labelx, placex, ksx⟩ := m
    refine ACall.body tab_ok (ρ := 0) (N := 84) Try.func8 rfl rfl rfl rfl rfl ?_
    repeat' first
      | refine AW.seq ?_
      | refine AW.block ?_
      | (refine AW.region tab_ok ?_; conv => whnf)
      | (refine AW.draw (id := 4) tab_ok mixed [0, 1, 2, 3, 4, 5, 6, 7, 8, 9, 10, 11, 13, 12, 14, 15, 16, 17, 18, 20, 19, 21, 22, 23, 24, 25, 26, 28, 27, 29, 30, 31, 32, 33, 35, 34, 36, 37, 38] (by kernel_rfl) ?_; conv => whnf)
      | (refine AW.draw (id := 9) tab_ok mixed [0, 1, 2, 3, 4, 6, 5, 7, 8, 9, 10, 11, 13, 12, 14, 15, 16] (by kernel_rfl) ?_; conv => whnf)
      | (refine AW.cond ?_; conv => whnf)
      | (refine AW.skip ?_; conv => whnf)
      | (refine AW.ret ?_; conv => whnf)
      | (refine AW.exit ?_; conv => whnf)
      | (refine (c1).mono ?_; rintro _ _ ⟨rfl, rfl⟩; conv => whnf)
      | (refine (c2).mono ?_; rintro _ _ ⟨rfl, rfl⟩; conv => whnf)
      | (refine (c3).mono ?_; rintro _ _ ⟨rfl, rfl⟩; conv => whnf)
      | (refine (c4).mono ?_; rintro _ _ ⟨rfl, rfl⟩; conv => whnf)
      | (refine (c5).mono ?_; rintro _ _ ⟨rfl, rfl⟩; conv => whnf)
      | (refine (c6).mono ?_; rintro _ _ ⟨rfl, rfl⟩; conv => whnf)
      | (refine (c7).mono ?_; rintro _ _ ⟨rfl, rfl⟩; conv => whnf)
      | (refine (c8).mono ?_; rintro _ _ ⟨rfl, rfl⟩; conv => whnf)
      | (refine (c9).mono ?_; rintro _ _ ⟨rfl, rfl⟩; conv => whnf)
      | (refine (c10).mono ?_; rintro _ _ ⟨rfl, rfl⟩; conv => whnf)
      | (refine (c11).mono ?_; rintro _ _ ⟨rfl, rfl⟩; conv => whnf)
      | (refine (c12).mono ?_; rintro _ _ ⟨rfl, rfl⟩; conv => whnf)
      | (refine (c13).mono ?_; rintro _ _ ⟨rfl, rfl⟩; conv => whnf)
      | (refine And.intro (@rfl Val _) ?_; conv => whnf)
      | (refine And.intro (by decide) ?_; conv => whnf)
      | (refine cs (fun _ => ?_) (fun _ => ?_) <;> conv => whnf)
    · rename_i h
      simp at h
    · rename_i h
      simp at h
    · rename_i h1 h2
      clear h1 h2 c1 c2 c3 c4 c5 c6 c7 c8 c9 c10 c12
      refine AW.loop (ι := UpToT ks) (fun x => ⟨84, [(62, .c (.d (.int .i64 x.i))), (61, .c (.d (.int .i64 (Tm.rows ks).length))), (60, .c (.d (.sl 0 11 (Tm.rows ks)))), (1, .c (.ptr 0 0))],
          [.var [.d (.int .i8 k), .d (.str name), .d (.str arg), .d (.int .i64 num), .d (.int .i8 tk), .d (.sl 0 2 (Ty.rows tks)), .d (.int .i8 uk), .d (.sl 0 2 (Ty.rows uks)), .d (.int .i64 label), .d (.int .i64 place), .d (.sl 0 11 (Tm.rows ks))],
           .var [.d (.int .i8 kx), .d (.str namex), .d (.str argx), .d (.int .i64 numx), .d (.int .i8 tkx), .d (.sl 0 2 (Ty.rows tksx)), .d (.int .i8 ukx), .d (.sl 0 2 (Ty.rows uksx)), .d (.int .i64 labelx), .d (.int .i64 placex), .d (.sl 0 11 (Tm.rows ksx))]], []⟩)
        (fun x => ks.length - x.i) ⟨0, Nat.zero_le _⟩ 2 (fun _ => rfl) (Nat.le_of_ble_eq_true rfl) ⟨⟨rfl, rfl, rfl, rfl, trivial⟩, rfl, rfl, ⟨[], rfl⟩, rfl⟩ (fun x => ?_)
      obtain ⟨i, hi⟩ := x
      repeat' first
        | refine AW.seq ?_
        | refine AW.block ?_
        | (refine AW.region tab_ok ?_; conv => whnf)
        | (refine AW.draw (id := 4) tab_ok mixed [0, 1, 2, 3, 4, 5, 6, 7, 8, 9, 10, 11, 13, 12, 14, 15, 16, 17, 18, 20, 19, 21, 22, 23, 24, 25, 26, 28, 27, 29, 30, 31, 32, 33, 35, 34, 36, 37, 38] (by kernel_rfl) ?_; conv => whnf)
        | (refine AW.draw (id := 9) tab_ok mixed [0, 1, 2, 3, 4, 6, 5, 7, 8, 9, 10, 11, 13, 12, 14, 15, 16] (by kernel_rfl) ?_; conv => whnf)
        | (refine AW.cond ?_; conv => whnf)
        | (refine AW.skip ?_; conv => whnf)
        | (refine AW.ret ?_; conv => whnf)
        | (refine AW.exit ?_; conv => whnf)
        | (refine And.intro (@rfl Val _) ?_; conv => whnf)
        | (refine And.intro (by decide) ?_; conv => whnf)
        | (refine cs (fun _ => ?_) (fun _ => ?_) <;> conv => whnf)
      · rename_i h1
        have hlen : ks.length ≤ 8192 := hlen
        simp only [trows_length] at h1 ⊢
        have := of_decide_eq_true h1
        refine ⟨by omega, fun row hrow => ?_⟩
        obtain ⟨y, ht, rfl⟩ := trows_get ks i row (by simpa using hrow)
        have hlt : i < ks.length := (List.getElem?_eq_some_iff.1 ht).1
        obtain ⟨k1, k2, k2', k3⟩ := hkid y (List.mem_of_getElem? ht)
        have d1 := tmCheck_call y
        rw [k1] at d1
        have d2 := tnodes_call y
        have d3 := tDepth_call y
        generalize tmN y = yn at *
        generalize tmDepth y = yd at *
        clear ht hrow hkid k1
        obtain ⟨ky, namey, argy, numy, tky, tksy, uky, uksy, labely, placey, ksy⟩ := y
        conv => whnf
        repeat' first
          | refine AW.seq ?_
          | refine AW.block ?_
          | (refine AW.region tab_ok ?_; conv => whnf)
          | (refine AW.draw (id := 4) tab_ok mixed [0, 1, 2, 3, 4, 5, 6, 7, 8, 9, 10, 11, 13, 12, 14, 15, 16, 17, 18, 20, 19, 21, 22, 23, 24, 25, 26, 28, 27, 29, 30, 31, 32, 33, 35, 34, 36, 37, 38] (by kernel_rfl) ?_; conv => whnf)
          | (refine AW.draw (id := 9) tab_ok mixed [0, 1, 2, 3, 4, 6, 5, 7, 8, 9, 10, 11, 13, 12, 14, 15, 16] (by kernel_rfl) ?_; conv => whnf)
          | (refine AW.cond ?_; conv => whnf)
          | (refine AW.skip ?_; conv => whnf)
          | (refine AW.ret ?_; conv => whnf)
          | (refine AW.exit ?_; conv => whnf)
          | (refine (d1).mono ?_; rintro _ _ ⟨rfl, rfl⟩; conv => whnf)
          | (refine (d2).mono ?_; rintro _ _ ⟨rfl, rfl⟩; conv => whnf)
          | (refine (d3).mono ?_; rintro _ _ ⟨rfl, rfl⟩; conv => whnf)
          | (refine (c11).mono ?_; rintro _ _ ⟨rfl, rfl⟩; conv => whnf)
          | (refine (c13).mono ?_; rintro _ _ ⟨rfl, rfl⟩; conv => whnf)
          | (refine And.intro (@rfl Val _) ?_; conv => whnf)
          | (refine And.intro (by decide) ?_; conv => whnf)
          | (refine cs (fun _ => ?_) (fun _ => ?_) <;> conv => whnf)
        · rename_i h2
          simp at h2
          omega
        · rename_i h2 h3
          simp at h3
          omega
        · rw [wrap64 (x := (i : Int) + 1) (by omega) (by omega)]
          exact ⟨⟨i + 1, hlt⟩, ⟨⟨rfl, rfl, rfl, rfl, trivial⟩, rfl, rfl, ⟨[_], rfl⟩, rfl⟩, show ks.length - (i + 1) < ks.length - i by omega⟩
      · exact ⟨rfl, rfl⟩
  · have hb : tmBareS t = tm0 := by simp [tmBareS, hc, tm0]
    have c3 := Whole_call _ tm0_fine
    have c4 := tSame_call t t
    rw [show sameT t t = false by simp [sameT, hc]] at c4
    have hc' : (tmcheck t != 0) = true := by simpa using hc
    rw [hb] at c1
    generalize tmcheck t = cc at *
    obtain ⟨k, name, arg, num, tk, tks, uk, uks, label, place, ks⟩ := t
    refine ACall.body tab_ok (ρ := 0) (N := 84) Try.func8 rfl rfl rfl rfl rfl ?_
    repeat' first
      | ((refine cs (fun _ => ?_) (fun h => absurd h (by rw [hc']; decide)); conv => whnf))
      | refine AW.seq ?_
      | refine AW.block ?_
      | (refine AW.region tab_ok ?_; conv => whnf)
      | (refine AW.draw (id := 4) tab_ok mixed [0, 1, 2, 3, 4, 5, 6, 7, 8, 9, 10, 11, 13, 12, 14, 15, 16, 17, 18, 20, 19, 21, 22, 23, 24, 25, 26, 28, 27, 29, 30, 31, 32, 33, 35, 34, 36, 37, 38] (by kernel_rfl) ?_; conv => whnf)
      | (refine AW.draw (id := 9) tab_ok mixed [0, 1, 2, 3, 4, 6, 5, 7, 8, 9, 10, 11, 13, 12, 14, 15, 16] (by kernel_rfl) ?_; conv => whnf)
      | (refine AW.cond ?_; conv => whnf)
      | (refine AW.skip ?_; conv => whnf)
      | (refine AW.ret ?_; conv => whnf)
      | (refine AW.exit ?_; conv => whnf)
      | (refine (c1).mono ?_; rintro _ _ ⟨rfl, rfl⟩; conv => whnf)
      | (refine (c2).mono ?_; rintro _ _ ⟨rfl, rfl⟩; conv => whnf)
      | (refine (c3).mono ?_; rintro _ _ ⟨rfl, rfl⟩; conv => whnf)
      | (refine (c4).mono ?_; rintro _ _ ⟨rfl, rfl⟩; conv => whnf)
      | (refine And.intro (@rfl Val _) ?_; conv => whnf)
      | (refine And.intro (by decide) ?_; conv => whnf)
      | (refine cs (fun _ => ?_) (fun _ => ?_) <;> conv => whnf)
    exact ⟨rfl, rfl⟩
end Go.Proofs.Ytoglfnjankinnaa.E
