/- Texts, merged: On2, Le2. No conditions. -/
import Derived.Test.YtoglfnjankinnaaGenX17
import Derived.Test.YtoglfnjankinnaaGenX9
import Derived.Test.YtoglfnjankinnaaLe1C
import Derived.Test.YtoglfnjankinnaaLe1A
import Derived.Test.YtoglfnjankinnaaLe1T
/- The walk of TermsOnce. No conditions. -/
set_option linter.unusedVariables false
set_option linter.unusedSimpArgs false
namespace Go.Proofs.Ytoglfnjankinnaa.E
open Go

def tm0 : Tm := .node 0 ⟨#[]⟩ ⟨#[]⟩ 0 0 [] 0 [] 0 0 []
theorem tm0_fine : Fine tm0 := .node (by simp [nodes, nodesL]) (by simp [nodes, nodesL]) (by simp) (by simp)
set_option maxRecDepth 10000 in
theorem law_TermsOnce (t : Tm) : ACall Try.prog 8 [t.val] [] (fun o σ => o = .ret (.c (.d (.bool true))) ∧ σ = []) := by
  have c1 := Bare_call t
  have c2 := tmCheck_call t
  by_cases hc : tmcheck t = 0
  · have hb : tmBareS t = tmbare t := by simp [tmBareS, hc]
    have hbc : tmcheck (tmbare t) = 0 := by rw [tmbare_check, hc]
    obtain ⟨hN, hD, hR⟩ := tmcheck_parts hc
    have c3 := tSame_call t (tmbare t)
    have c4 := tSame_call (tmbare t) t
    rw [show sameT t (tmbare t) = true by simp [sameT, hc, hbc, (tmbare_same t hR).1]] at c3
    rw [show sameT (tmbare t) t = true by simp [sameT, hc, hbc, (tmbare_same t hR).2]] at c4
    have c5 := Bare_call (tmbare t)
    rw [show tmBareS (tmbare t) = tmbare t by simp [tmBareS, hbc, tmbare_twice]] at c5
    have c6 := Whole_call _ (fine_bare t hN)
    have c7 := tFree_call (tmbare t)
    rw [tmbare_free] at c7
    have c8 := tFree_call t
    have c9 := names_call (freeS t) (free_len t)
    have c10 := tnodes_call (tmbare t)
    rw [tmbare_N] at c10
    have c11 := tnodes_call t
    have c12 := tDepth_call (tmbare t)
    rw [show tmDepth (tmbare t) = tmDepth t by simp only [tmDepth, tmbare_N, tmbare_D]] at c12
    have c13 := tDepth_call t
    have hkid : ∀ x ∈ t.kids, tmcheck x = 0 ∧ tmN x < tmN t ∧ tmN x ≤ 8192 ∧ tmDepth x < tmDepth t := by
      obtain ⟨k, name, arg, num, tk, tks, uk, uks, label, place, ks⟩ := t
      intro x hx
      have h1 := tmN_mem ks x hx
      have h2 := (tmD_parts hD).1 x hx
      have h3 := tmcheck_kid hc hx
      have h4 : tmN x < tmN (.node k name arg num tk tks uk uks label place ks) := by simp only [tmN]; omega
      refine ⟨h3, h4, by omega, ?_⟩
      simp only [tmDepth]
      rw [if_neg (by omega), if_neg (by omega)]
      omega
    have hlen : t.kids.length ≤ 8192 := by
      obtain ⟨k, name, arg, num, tk, tks, uk, uks, label, place, ks⟩ := t
      have := tmNL_len ks
      simp only [tmN] at hN
      show ks.length ≤ 8192
      omega
    rw [hb] at c1
    rw [hc] at c2
    generalize tmbare t = m at *
    generalize freeS t = L at *
    generalize hnn : tmN t = nn at *
    generalize hdd : tmDepth t = dd at *
    clear hb hbc hR hD hc hnn hdd
    obtain ⟨k, name, arg, num, tk, tks, uk, uks, label, place, ks⟩ := t
    obtain ⟨kx, namex, argx, numx, tkx, tksx, ukx, uksx, labelx, placex, ksx⟩ := m
    refine ACall.body tab_ok (ρ := 0) (N := 84) Try.func8 rfl rfl rfl rfl rfl ?_
    repeat' first
      | refine AW.seq ?_
      | refine AW.block ?_
      | (refine AW.region tab_ok ?_; conv => whnf)
      | (refine AW.draw (id := 4) tab_ok mixed [0, 1, 2, 3, 4, 5, 6, 7, 8, 9, 10, 11, 13, 12, 14, 15, 16, 17, 18, 20, 19, 21, 22, 23, 24, 25, 26, 28, 27, 29, 30, 31, 32, 33, 35, 34, 36, 37, 38] (by kernel_rfl) ?_; conv => whnf)
      | (refine AW.draw (id := 9) tab_ok mixed [0, 1, 2, 3, 4, 6, 5, 7, 8, 9, 10, 11, 13, 12, 14, 15, 16] (by kernel_rfl) ?_; conv => whnf)
      | (refine AW.cond ?_; conv => whnf)
      | (refine AW.skip ?_; conv => whnf)
      | (refine AW.ret ?_; conv => whnf)
      | (refine AW.exit ?_; conv => whnf)
      | (refine (c1).mono ?_; rintro _ _ ⟨rfl, rfl⟩; conv => whnf)
      | (refine (c2).mono ?_; rintro _ _ ⟨rfl, rfl⟩; conv => whnf)
      | (refine (c3).mono ?_; rintro _ _ ⟨rfl, rfl⟩; conv => whnf)
      | (refine (c4).mono ?_; rintro _ _ ⟨rfl, rfl⟩; conv => whnf)
      | (refine (c5).mono ?_; rintro _ _ ⟨rfl, rfl⟩; conv => whnf)
      | (refine (c6).mono ?_; rintro _ _ ⟨rfl, rfl⟩; conv => whnf)
      | (refine (c7).mono ?_; rintro _ _ ⟨rfl, rfl⟩; conv => whnf)
      | (refine (c8).mono ?_; rintro _ _ ⟨rfl, rfl⟩; conv => whnf)
      | (refine (c9).mono ?_; rintro _ _ ⟨rfl, rfl⟩; conv => whnf)
      | (refine (c10).mono ?_; rintro _ _ ⟨rfl, rfl⟩; conv => whnf)
      | (refine (c11).mono ?_; rintro _ _ ⟨rfl, rfl⟩; conv => whnf)
      | (refine (c12).mono ?_; rintro _ _ ⟨rfl, rfl⟩; conv => whnf)
      | (refine (c13).mono ?_; rintro _ _ ⟨rfl, rfl⟩; conv => whnf)
      | (refine And.intro (@rfl Val _) ?_; conv => whnf)
      | (refine And.intro (by decide) ?_; conv => whnf)
      | (refine cs (fun _ => ?_) (fun _ => ?_) <;> conv => whnf)
    · rename_i h
      simp at h
    · rename_i h
      simp at h
    · rename_i h1 h2
      clear h1 h2 c1 c2 c3 c4 c5 c6 c7 c8 c9 c10 c12
      refine AW.loop (ι := UpToT ks) (fun x => ⟨84, [(62, .c (.d (.int .i64 x.i))), (61, .c (.d (.int .i64 (Tm.rows ks).length))), (60, .c (.d (.sl 0 11 (Tm.rows ks)))), (1, .c (.ptr 0 0))],
          [.var [.d (.int .i8 k), .d (.str name), .d (.str arg), .d (.int .i64 num), .d (.int .i8 tk), .d (.sl 0 2 (Ty.rows tks)), .d (.int .i8 uk), .d (.sl 0 2 (Ty.rows uks)), .d (.int .i64 label), .d (.int .i64 place), .d (.sl 0 11 (Tm.rows ks))],
           .var [.d (.int .i8 kx), .d (.str namex), .d (.str argx), .d (.int .i64 numx), .d (.int .i8 tkx), .d (.sl 0 2 (Ty.rows tksx)), .d (.int .i8 ukx), .d (.sl 0 2 (Ty.rows uksx)), .d (.int .i64 labelx), .d (.int .i64 placex), .d (.sl 0 11 (Tm.rows ksx))]], []⟩)
        (fun x => ks.length - x.i) ⟨0, Nat.zero_le _⟩ 2 (fun _ => rfl) (Nat.le_of_ble_eq_true rfl) ⟨⟨rfl, rfl, rfl, rfl, trivial⟩, rfl, rfl, ⟨[], rfl⟩, rfl⟩ (fun x => ?_)
      obtain ⟨i, hi⟩ := x
      repeat' first
        | refine AW.seq ?_
        | refine AW.block ?_
        | (refine AW.region tab_ok ?_; conv => whnf)
        | (refine AW.draw (id := 4) tab_ok mixed [0, 1, 2, 3, 4, 5, 6, 7, 8, 9, 10, 11, 13, 12, 14, 15, 16, 17, 18, 20, 19, 21, 22, 23, 24, 25, 26, 28, 27, 29, 30, 31, 32, 33, 35, 34, 36, 37, 38] (by kernel_rfl) ?_; conv => whnf)
        | (refine AW.draw (id := 9) tab_ok mixed [0, 1, 2, 3, 4, 6, 5, 7, 8, 9, 10, 11, 13, 12, 14, 15, 16] (by kernel_rfl) ?_; conv => whnf)
        | (refine AW.cond ?_; conv => whnf)
        | (refine AW.skip ?_; conv => whnf)
        | (refine AW.ret ?_; conv => whnf)
        | (refine AW.exit ?_; conv => whnf)
        | (refine And.intro (@rfl Val _) ?_; conv => whnf)
        | (refine And.intro (by decide) ?_; conv => whnf)
        | (refine cs (fun _ => ?_) (fun _ => ?_) <;> conv => whnf)
      · rename_i h1
        have hlen : ks.length ≤ 8192 := hlen
        simp only [trows_length] at h1 ⊢
        have := of_decide_eq_true h1
        refine ⟨by omega, fun row hrow => ?_⟩
        obtain ⟨y, ht, rfl⟩ := trows_get ks i row (by simpa using hrow)
        have hlt : i < ks.length := (List.getElem?_eq_some_iff.1 ht).1
        obtain ⟨k1, k2, k2', k3⟩ := hkid y (List.mem_of_getElem? ht)
        have d1 := tmCheck_call y
        rw [k1] at d1
        have d2 := tnodes_call y
        have d3 := tDepth_call y
        generalize tmN y = yn at *
        generalize tmDepth y = yd at *
        clear ht hrow hkid k1
        obtain ⟨ky, namey, argy, numy, tky, tksy, uky, uksy, labely, placey, ksy⟩ := y
        conv => whnf
        repeat' first
          | refine AW.seq ?_
          | refine AW.block ?_
          | (refine AW.region tab_ok ?_; conv => whnf)
          | (refine AW.draw (id := 4) tab_ok mixed [0, 1, 2, 3, 4, 5, 6, 7, 8, 9, 10, 11, 13, 12, 14, 15, 16, 17, 18, 20, 19, 21, 22, 23, 24, 25, 26, 28, 27, 29, 30, 31, 32, 33, 35, 34, 36, 37, 38] (by kernel_rfl) ?_; conv => whnf)
          | (refine AW.draw (id := 9) tab_ok mixed [0, 1, 2, 3, 4, 6, 5, 7, 8, 9, 10, 11, 13, 12, 14, 15, 16] (by kernel_rfl) ?_; conv => whnf)
          | (refine AW.cond ?_; conv => whnf)
          | (refine AW.skip ?_; conv => whnf)
          | (refine AW.ret ?_; conv => whnf)
          | (refine AW.exit ?_; conv => whnf)
          | (refine (d1).mono ?_; rintro _ _ ⟨rfl, rfl⟩; conv => whnf)
          | (refine (d2).mono ?_; rintro _ _ ⟨rfl, rfl⟩; conv => whnf)
          | (refine (d3).mono ?_; rintro _ _ ⟨rfl, rfl⟩; conv => whnf)
          | (refine (c11).mono ?_; rintro _ _ ⟨rfl, rfl⟩; conv => whnf)
          | (refine (c13).mono ?_; rintro _ _ ⟨rfl, rfl⟩; conv => whnf)
          | (refine And.intro (@rfl Val _) ?_; conv => whnf)
          | (refine And.intro (by decide) ?_; conv => whnf)
          | (refine cs (fun _ => ?_) (fun _ => ?_) <;> conv => whnf)
        · rename_i h2
          simp at h2
          omega
        · rename_i h2 h3
          simp at h3
          omega
        · rw [wrap64 (x := (i : Int) + 1) (by omega) (by omega)]
          exact ⟨⟨i + 1, hlt⟩, ⟨⟨rfl, rfl, rfl, rfl, trivial⟩, rfl, rfl, ⟨[_], rfl⟩, rfl⟩, show ks.length - (i + 1) < ks.length - i by omega⟩
      · exact ⟨rfl, rfl⟩
  · have hb : tmBareS t = tm0 := by simp [tmBareS, hc, tm0]
    have c3 := Whole_call _ tm0_fine
    have c4 := tSame_call t t
    rw [show sameT t t = false by simp [sameT, hc]] at c4
    have hc' : (tmcheck t != 0) = true := by simpa using hc
    rw [hb] at c1
    generalize tmcheck t = cc at *
    obtain ⟨k, name, arg, num, tk, tks, uk, uks, label, place, ks⟩ := t
    refine ACall.body tab_ok (ρ := 0) (N := 84) Try.func8 rfl rfl rfl rfl rfl ?_
    repeat' first
      | ((refine cs (fun _ => ?_) (fun h => absurd h (by rw [hc']; decide)); conv => whnf))
      | refine AW.seq ?_
      | refine AW.block ?_
      | (refine AW.region tab_ok ?_; conv => whnf)
      | (refine AW.draw (id := 4) tab_ok mixed [0, 1, 2, 3, 4, 5, 6, 7, 8, 9, 10, 11, 13, 12, 14, 15, 16, 17, 18, 20, 19, 21, 22, 23, 24, 25, 26, 28, 27, 29, 30, 31, 32, 33, 35, 34, 36, 37, 38] (by kernel_rfl) ?_; conv => whnf)
      | (refine AW.draw (id := 9) tab_ok mixed [0, 1, 2, 3, 4, 6, 5, 7, 8, 9, 10, 11, 13, 12, 14, 15, 16] (by kernel_rfl) ?_; conv => whnf)
      | (refine AW.cond ?_; conv => whnf)
      | (refine AW.skip ?_; conv => whnf)
      | (refine AW.ret ?_; conv => whnf)
      | (refine AW.exit ?_; conv => whnf)
      | (refine (c1).mono ?_; rintro _ _ ⟨rfl, rfl⟩; conv => whnf)
      | (refine (c2).mono ?_; rintro _ _ ⟨rfl, rfl⟩; conv => whnf)
      | (refine (c3).mono ?_; rintro _ _ ⟨rfl, rfl⟩; conv => whnf)
      | (refine (c4).mono ?_; rintro _ _ ⟨rfl, rfl⟩; conv => whnf)
      | (refine And.intro (@rfl Val _) ?_; conv => whnf)
      | (refine And.intro (by decide) ?_; conv => whnf)
      | (refine cs (fun _ => ?_) (fun _ => ?_) <;> conv => whnf)
    exact ⟨rfl, rfl⟩
end Go.Proofs.Ytoglfnjankinnaa.E

/- Less annotated terms: Spots, At, All. No conditions. -/
set_option linter.unusedVariables false
set_option linter.unusedSimpArgs false
namespace Go.Proofs.Ytoglfnjankinnaa.E
open Go

set_option maxRecDepth 10000 in
theorem lcast_call (t : Tm) : tmN t ≤ 8192 → ACall Try.prog 93 [.c (.d (.rp 0 t.cells))] [] (fun o σ => o = .ret (.c (.d (.bool (tmhas 17 t)))) ∧ σ = []) := by
  induction t using Tm.ind with
  | _ k name arg num tk tks uk uks label place ks ih =>
  intro hN
  have hlen := tmNL_len ks
  simp only [tmN] at hN
  have ih' : ∀ t ∈ ks, ACall Try.prog 93 [.c (.d (.rp 0 t.cells))] [] (fun o σ => o = .ret (.c (.d (.bool (tmhas 17 t)))) ∧ σ = []) := fun t ht => ih t ht (by have := tmN_mem ks t ht; omega)
  have hl8 : ks.length ≤ 8192 := by omega
  clear ih hN hlen
  refine ACall.body tab_ok (ρ := 0) (N := 25) Try.func93 rfl rfl rfl rfl rfl ?_
  repeat' first
    | refine AW.seq ?_
    | refine AW.block ?_
    | (refine AW.region tab_ok ?_; conv => whnf)
    | (refine AW.cond ?_; conv => whnf)
    | (refine AW.skip ?_; conv => whnf)
    | (refine AW.ret ?_; conv => whnf)
    | (refine AW.exit ?_; conv => whnf)
    | (refine And.intro (@rfl Val _) ?_; conv => whnf)
    | (refine And.intro (by decide) ?_; conv => whnf)
    | (refine cs (fun _ => ?_) (fun _ => ?_) <;> conv => whnf)
  refine AW.loop (ι := TmHasI 17 ks) (fun x => ⟨25, [(9, .c (.d (.int .i64 x.i))), (8, .c (.d (.int .i64 (Tm.rows ks).length))), (0, .c (.d (.rp 0 (Tm.node k name arg num tk tks uk uks label place ks).cells)))], [], []⟩)
    (fun x => ks.length - x.i) ⟨0, Nat.zero_le _, by simp [tmhass]⟩ 0 (fun _ => rfl) (Nat.le_of_ble_eq_true rfl) ⟨⟨rfl, rfl, rfl, trivial⟩, rfl, rfl, ⟨[], rfl⟩, rfl⟩ (fun x => ?_)
  obtain ⟨i, hi, hj⟩ := x
  repeat' first
    | refine AW.seq ?_
    | refine AW.block ?_
    | (refine AW.region tab_ok ?_; conv => whnf)
    | (refine AW.cond ?_; conv => whnf)
    | (refine AW.skip ?_; conv => whnf)
    | (refine AW.ret ?_; conv => whnf)
    | (refine AW.exit ?_; conv => whnf)
    | (refine And.intro (@rfl Val _) ?_; conv => whnf)
    | (refine And.intro (by decide) ?_; conv => whnf)
    | (refine cs (fun _ => ?_) (fun _ => ?_) <;> conv => whnf)
  · rename_i h1
    have h1 : (i : Int) < ((Tm.rows ks).length : Nat) := of_decide_eq_true h1
    refine ⟨⟨by omega, h1⟩, fun row hrow => ?_⟩
    rw [trows_length] at h1
    obtain ⟨x, ht, rfl⟩ := trows_get ks i row (by simpa using hrow)
    have hlt : i < ks.length := by omega
    have hc := ih' x (List.mem_of_getElem? ht)
    have ht1 := tmhass_take 17 ks i _ ht
    have hm1 := tmhass_mem 17 ks x (List.mem_of_getElem? ht)
    rw [hj] at ht1
    generalize tmhas 17 x = bb at hc ht1 hm1
    conv => whnf
    repeat' first
      | refine AW.seq ?_
      | refine AW.block ?_
      | (refine AW.region tab_ok ?_; conv => whnf)
      | (refine AW.cond ?_; conv => whnf)
      | (refine AW.skip ?_; conv => whnf)
      | (refine AW.ret ?_; conv => whnf)
      | (refine AW.exit ?_; conv => whnf)
      | (refine (hc).mono ?_; rintro _ _ ⟨rfl, rfl⟩; conv => whnf)
      | (refine And.intro (@rfl Val _) ?_; conv => whnf)
      | (refine And.intro (by decide) ?_; conv => whnf)
      | (refine cs (fun _ => ?_) (fun _ => ?_) <;> conv => whnf)
    · rename_i h2
      subst h2
      refine ⟨outb ?_, rfl⟩
      simp [tmhas, hm1 rfl]
    · rename_i h2
      subst h2
      rw [wrap64 (x := (i : Int) + 1) (by omega) (by omega)]
      exact ⟨⟨i + 1, hlt, by rw [ht1]; rfl⟩, ⟨⟨rfl, rfl, rfl, trivial⟩, rfl, rfl, ⟨[], rfl⟩, rfl⟩, show ks.length - (i + 1) < ks.length - i by omega⟩
  · rename_i h1
    have h1 : ¬ (i : Int) < ((Tm.rows ks).length : Nat) := of_decide_eq_false h1
    rw [trows_length] at h1
    obtain rfl : i = ks.length := by omega
    simp only [List.take_length] at hj
    refine ⟨outb ?_, rfl⟩
    rw [Bool.eq_iff_iff]
    simp [tmhas, hj]
def soundE (t : Tm) : Int := if tmcheck t ≠ 0 then tmcheck t else if tmhas 17 t = true then 30 else 0
set_option maxRecDepth 10000 in
theorem lsound_call (t : Tm) : ACall Try.prog 52 [.c (.d (.rp 0 t.cells))] [] (fun o σ => o = .ret (.c (.d (.int .i64 (soundE t)))) ∧ σ = []) := by
  have c1 := tmCheck_call t
  by_cases hc : tmcheck t = 0
  · have c2 := lcast_call t (tmcheck_ok hc).1
    have e : soundE t = if tmhas 17 t = true then 30 else 0 := by simp [soundE, hc]
    rw [e]
    rw [hc] at c1
    generalize tmhas 17 t = b at *
    clear hc e
    obtain ⟨k, name, arg, num, tk, tks, uk, uks, label, place, ks⟩ := t
    refine ACall.body tab_ok (ρ := 0) (N := 13) Try.func52 rfl rfl rfl rfl rfl ?_
    repeat' first
      | refine AW.seq ?_
      | refine AW.block ?_
      | (refine AW.region tab_ok ?_; conv => whnf)
      | (refine AW.cond ?_; conv => whnf)
      | (refine AW.skip ?_; conv => whnf)
      | (refine AW.ret ?_; conv => whnf)
      | (refine AW.exit ?_; conv => whnf)
      | (refine (c1).mono ?_; rintro _ _ ⟨rfl, rfl⟩; conv => whnf)
      | (refine (c2).mono ?_; rintro _ _ ⟨rfl, rfl⟩; conv => whnf)
      | (refine And.intro (@rfl Val _) ?_; conv => whnf)
      | (refine And.intro (by decide) ?_; conv => whnf)
      | (refine cs (fun _ => ?_) (fun _ => ?_) <;> conv => whnf)
    · rename_i h
      rw [if_pos h]
      exact ⟨rfl, rfl⟩
    · rename_i h
      rw [if_neg (by simp [h])]
      exact ⟨rfl, rfl⟩
  · have e : soundE t = tmcheck t := by simp [soundE, hc]
    rw [e]
    generalize tmcheck t = cc at *
    clear e
    obtain ⟨k, name, arg, num, tk, tks, uk, uks, label, place, ks⟩ := t
    refine ACall.body tab_ok (ρ := 0) (N := 13) Try.func52 rfl rfl rfl rfl rfl ?_
    repeat' first
      | ((refine cs (fun _ => ?_) (fun h => absurd h (by simpa using hc)); conv => whnf))
      | refine AW.seq ?_
      | refine AW.block ?_
      | (refine AW.region tab_ok ?_; conv => whnf)
      | (refine AW.cond ?_; conv => whnf)
      | (refine AW.skip ?_; conv => whnf)
      | (refine AW.ret ?_; conv => whnf)
      | (refine AW.exit ?_; conv => whnf)
      | (refine (c1).mono ?_; rintro _ _ ⟨rfl, rfl⟩; conv => whnf)
      | (refine And.intro (@rfl Val _) ?_; conv => whnf)
      | (refine And.intro (by decide) ?_; conv => whnf)
      | (refine cs (fun _ => ?_) (fun _ => ?_) <;> conv => whnf)
    exact ⟨rfl, rfl⟩
theorem sound_ok {t : Tm} (h : soundE t = 0) : tmcheck t = 0 ∧ tmhas 17 t = false := by
  unfold soundE at h
  split at h
  · rename_i h1; exact absurd h h1
  · rename_i h1
    split at h
    · cases h
    · rename_i h2; exact ⟨by simpa using h1, by simpa using h2⟩
set_option maxRecDepth 10000 in
theorem lcount_call (t : Tm) (h : soundE t = 0) : ACall Try.prog 53 [.c (.d (.rp 0 t.cells))] [] (fun o σ => o = .ret (.c (.d (.int .i64 (tmSp t : Nat)))) ∧ σ = []) := by
  obtain ⟨h1, h2⟩ := sound_ok h
  obtain ⟨h3, h4⟩ := tmcheck_ok h1
  have hs := tmSp_N t h3 h2
  have c := term_callC t 0 h3 h4 h2 (by omega)
  rw [Nat.zero_add] at c
  generalize leT leBC t 0 = q at c
  generalize tmSp t = S at *
  clear h h1 h2 h3 h4
  obtain ⟨k, name, arg, num, tk, tks, uk, uks, label, place, ks⟩ := t
  refine ACall.body tab_ok (ρ := 0) (N := 8) Try.func53 rfl rfl rfl rfl rfl ?_
  repeat' first
    | refine AW.seq ?_
    | refine AW.block ?_
    | (refine AW.region tab_ok ?_; conv => whnf)
    | (refine AW.cond ?_; conv => whnf)
    | (refine AW.skip ?_; conv => whnf)
    | (refine AW.ret ?_; conv => whnf)
    | (refine AW.exit ?_; conv => whnf)
    | (refine (c).mono ?_; rintro _ _ ⟨rfl, rfl⟩; conv => whnf)
    | (refine And.intro (@rfl Val _) ?_; conv => whnf)
    | (refine And.intro (by decide) ?_; conv => whnf)
    | (refine cs (fun _ => ?_) (fun _ => ?_) <;> conv => whnf)
  exact ⟨rfl, rfl⟩
def SpotsS (t : Tm) : Nat := if soundE t = 0 then tmSp t else 0
set_option maxRecDepth 10000 in
theorem Spots_call (t : Tm) : ACall Try.prog 20 [t.val] [] (fun o σ => o = .ret (.c (.d (.int .i64 (SpotsS t : Nat)))) ∧ σ = []) := by
  have c1 := lsound_call t
  unfold SpotsS
  by_cases h : soundE t = 0
  · have c2 := lcount_call t h
    rw [if_pos h]
    rw [h] at c1
    generalize tmSp t = S at *
    clear h
    obtain ⟨k, name, arg, num, tk, tks, uk, uks, label, place, ks⟩ := t
    refine ACall.body tab_ok (ρ := 0) (N := 6) Try.func20 rfl rfl rfl rfl rfl ?_
    repeat' first
      | refine AW.seq ?_
      | refine AW.block ?_
      | (refine AW.region tab_ok ?_; conv => whnf)
      | (refine AW.cond ?_; conv => whnf)
      | (refine AW.skip ?_; conv => whnf)
      | (refine AW.ret ?_; conv => whnf)
      | (refine AW.exit ?_; conv => whnf)
      | (refine (c1).mono ?_; rintro _ _ ⟨rfl, rfl⟩; conv => whnf)
      | (refine (c2).mono ?_; rintro _ _ ⟨rfl, rfl⟩; conv => whnf)
      | (refine And.intro (@rfl Val _) ?_; conv => whnf)
      | (refine And.intro (by decide) ?_; conv => whnf)
      | (refine cs (fun _ => ?_) (fun _ => ?_) <;> conv => whnf)
    exact ⟨rfl, rfl⟩
  · rw [if_neg h]
    generalize soundE t = S at *
    obtain ⟨k, name, arg, num, tk, tks, uk, uks, label, place, ks⟩ := t
    refine ACall.body tab_ok (ρ := 0) (N := 6) Try.func20 rfl rfl rfl rfl rfl ?_
    repeat' first
      | ((refine cs (fun _ => ?_) (fun g => absurd g (by simpa using h)); conv => whnf))
      | refine AW.seq ?_
      | refine AW.block ?_
      | (refine AW.region tab_ok ?_; conv => whnf)
      | (refine AW.cond ?_; conv => whnf)
      | (refine AW.skip ?_; conv => whnf)
      | (refine AW.ret ?_; conv => whnf)
      | (refine AW.exit ?_; conv => whnf)
      | (refine (c1).mono ?_; rintro _ _ ⟨rfl, rfl⟩; conv => whnf)
      | (refine And.intro (@rfl Val _) ?_; conv => whnf)
      | (refine And.intro (by decide) ?_; conv => whnf)
      | (refine cs (fun _ => ?_) (fun _ => ?_) <;> conv => whnf)
    exact ⟨rfl, rfl⟩
set_option maxRecDepth 10000 in
theorem LAll_call (t : Tm) : ACall Try.prog 22 [t.val] [] (fun o σ => o = .ret (.tup [(if soundE t = 0 then leT leBT t 0 else tm0).val, .c (.d (.int .i64 (soundE t)))]) ∧ σ = []) := by
  have c1 := lsound_call t
  by_cases h : soundE t = 0
  · obtain ⟨h1, h2⟩ := sound_ok h
    obtain ⟨h3, h4⟩ := tmcheck_ok h1
    have hs := tmSp_N t h3 h2
    have c2 := term_callT t 0 h3 h4 h2 (by omega)
    rw [if_pos h, h]
    rw [h] at c1
    generalize leT leBT t 0 = q at *
    clear h h1 h2 h3 h4 hs
    obtain ⟨k, name, arg, num, tk, tks, uk, uks, label, place, ks⟩ := t
    obtain ⟨kq, nq, gq, uq, tkq, tsq, ukq, usq, lq, pq, ksq⟩ := q
    refine ACall.body tab_ok (ρ := 0) (N := 11) Try.func22 rfl rfl rfl rfl rfl ?_
    repeat' first
      | refine AW.seq ?_
      | refine AW.block ?_
      | (refine AW.region tab_ok ?_; conv => whnf)
      | (refine AW.cond ?_; conv => whnf)
      | (refine AW.skip ?_; conv => whnf)
      | (refine AW.ret ?_; conv => whnf)
      | (refine AW.exit ?_; conv => whnf)
      | (refine (c1).mono ?_; rintro _ _ ⟨rfl, rfl⟩; conv => whnf)
      | (refine (c2).mono ?_; rintro _ _ ⟨rfl, rfl⟩; conv => whnf)
      | (refine And.intro (@rfl Val _) ?_; conv => whnf)
      | (refine And.intro (by decide) ?_; conv => whnf)
      | (refine cs (fun _ => ?_) (fun _ => ?_) <;> conv => whnf)
    exact ⟨rfl, rfl⟩
  · rw [if_neg h]
    generalize soundE t = S at *
    obtain ⟨k, name, arg, num, tk, tks, uk, uks, label, place, ks⟩ := t
    refine ACall.body tab_ok (ρ := 0) (N := 11) Try.func22 rfl rfl rfl rfl rfl ?_
    repeat' first
      | ((refine cs (fun _ => ?_) (fun g => absurd g (by simpa using h)); conv => whnf))
      | refine AW.seq ?_
      | refine AW.block ?_
      | (refine AW.region tab_ok ?_; conv => whnf)
      | (refine AW.cond ?_; conv => whnf)
      | (refine AW.skip ?_; conv => whnf)
      | (refine AW.ret ?_; conv => whnf)
      | (refine AW.exit ?_; conv => whnf)
      | (refine (c1).mono ?_; rintro _ _ ⟨rfl, rfl⟩; conv => whnf)
      | (refine And.intro (@rfl Val _) ?_; conv => whnf)
      | (refine And.intro (by decide) ?_; conv => whnf)
      | (refine cs (fun _ => ?_) (fun _ => ?_) <;> conv => whnf)
    exact ⟨rfl, rfl⟩
def ints (l : List Int) : List (List DV) := l.map fun s => [.int .i64 s]
theorem ints_len (l : List Int) : (ints l).length = l.length := by simp [ints]
theorem ints_get {l : List Int} {i : Nat} {row : List DV} (h : (ints l)[i]? = some row) : ∃ s, l[i]? = some s ∧ row = [.int .i64 s] := by
  simp only [ints, List.getElem?_map, Option.map_eq_some_iff] at h
  obtain ⟨s, h1, h2⟩ := h
  exact ⟨s, h1, h2.symm⟩
/-- Are all numbers those of spots? -/
def inSp (n : Nat) (l : List Int) : Bool := l.all fun s => decide (0 ≤ s) && decide (s < n)
def atE (t : Tm) (l : List Int) : Int := if soundE t ≠ 0 then soundE t else if inSp (tmSp t) l = true then 0 else 2
def atB (l : List Int) : Nat → Bool := fun i => decide ((i : Int) ∈ l)
def atT (t : Tm) (l : List Int) : Tm := if atE t l = 0 then leT (atB l) t 0 else tm0
theorem leBA_is (l : List Int) (h : l.length ≤ 100000) : leBA (imany l (0, [])).2 = atB l := by
  funext i
  have h0 : ∀ s, ival s [] = 0 := fun s => by rw [ival_iv]; rfl
  have := imany_val (i : Int) l (0, []) h (by rw [h0]; omega) (by rw [h0]; omega) (fun s => by rw [h0]; omega)
  simp only [leBA, atB]
  rw [h0] at this
  rw [Bool.eq_iff_iff, decide_eq_true_eq, decide_eq_true_eq, this]
  simp
structure AtI (n : Nat) (l : List Int) where
  i : Nat
  hi : i ≤ l.length
  ok : inSp n (l.take i) = true
theorem inSp_snoc (n : Nat) (l : List Int) (s : Int) : inSp n (l ++ [s]) = (inSp n l && (decide (0 ≤ s) && decide (s < n))) := by simp [inSp]
theorem encI_nil : encI [] = [] := by unfold encI; rfl
set_option maxRecDepth 10000 in
theorem At_call (t : Tm) (l : List Int) (hl : l.length ≤ 100000) : ACall Try.prog 21 [t.val, .c (.d (.sl 0 1 (ints l)))] [] (fun o σ => o = .ret (.tup [(atT t l).val, .c (.d (.int .i64 (atE t l)))]) ∧ σ = []) := by
  have c1 := lsound_call t
  by_cases h : soundE t = 0
  · have c2 := lcount_call t h
    obtain ⟨h1, h2⟩ := sound_ok h
    obtain ⟨h3, h4⟩ := tmcheck_ok h1
    have hs := tmSp_N t h3 h2
    have c3 := fun (m : Nat × IL) => term_callA m.1 m.2 t 0 h3 h4 h2 (by omega)
    have eE : atE t l = if inSp (tmSp t) l = true then 0 else 2 := by simp [atE, h]
    have eT : atT t l = if inSp (tmSp t) l = true then leT (atB l) t 0 else tm0 := by
      unfold atT; rw [eE]; split <;> simp
    rw [eE, eT, ← leBA_is l hl]
    rw [h] at c1
    simp only [Nat.zero_add] at c3
    generalize tmSp t = S at *
    generalize hL : (fun m : Nat × IL => leT (leBA m.2) t 0) = LT
    have c3 : ∀ m : Nat × IL, _ := c3
    clear h h1 h2 h3 h4 eE eT
    obtain ⟨k, name, arg, num, tk, tks, uk, uks, label, place, ks⟩ := t
    refine ACall.body tab_ok (ρ := 0) (N := 40) Try.func21 rfl rfl rfl rfl rfl ?_
    repeat' first
      | refine AW.seq ?_
      | refine AW.block ?_
      | (refine AW.region tab_ok ?_; conv => whnf)
      | (refine AW.cond ?_; conv => whnf)
      | (refine AW.skip ?_; conv => whnf)
      | (refine AW.ret ?_; conv => whnf)
      | (refine AW.exit ?_; conv => whnf)
      | (refine (c1).mono ?_; rintro _ _ ⟨rfl, rfl⟩; conv => whnf)
      | (refine (c2).mono ?_; rintro _ _ ⟨rfl, rfl⟩; conv => whnf)
      | (refine And.intro (@rfl Val _) ?_; conv => whnf)
      | (refine And.intro (by decide) ?_; conv => whnf)
      | (refine cs (fun _ => ?_) (fun _ => ?_) <;> conv => whnf)
    refine AW.loop (ι := AtI S l) (fun x => ⟨40, [(21, .c (.d (.int .i64 x.i))), (20, .c (.d (.int .i64 (ints l).length))), (19, .c (.d (.sl 0 1 (ints l)))), (2, .c (.ptr 0 0)), (4, .c (.ptr 1 0)), (7, .c (.d (.int .i64 (S : Nat)))), (8, .c (.ptr 3 0))],
        [.frz 0 (Tm.node k name arg num tk tks uk uks label place ks).cells, .var [.d (.int .i8 0), .d (.str ⟨#[]⟩), .d (.str ⟨#[]⟩), .d (.int .i64 0), .d (.int .i8 0), .d .nils, .d (.int .i8 0), .d .nils, .d (.int .i64 0), .d (.int .i64 0), .d .nils],
         .mp (.int .i64) (imany (l.take x.i) (0, [])).1 (encI (imany (l.take x.i) (0, [])).2), .var [.mp 2]], []⟩)
      (fun x => l.length - x.i) ⟨0, Nat.zero_le _, rfl⟩ 4 (fun _ => rfl) (Nat.le_of_ble_eq_true rfl) ⟨⟨rfl, rfl, rfl, rfl, rfl, rfl, rfl, trivial⟩, rfl, rfl, ⟨[], by simp only [List.take_zero, imany, encI_nil]; rfl⟩, rfl⟩ (fun x => ?_)
    obtain ⟨i, hi, hok⟩ := x
    repeat' first
      | refine AW.seq ?_
      | refine AW.block ?_
      | (refine AW.region tab_ok ?_; conv => whnf)
      | (refine AW.cond ?_; conv => whnf)
      | (refine AW.skip ?_; conv => whnf)
      | (refine AW.ret ?_; conv => whnf)
      | (refine AW.exit ?_; conv => whnf)
      | (refine And.intro (@rfl Val _) ?_; conv => whnf)
      | (refine And.intro (by decide) ?_; conv => whnf)
      | (refine cs (fun _ => ?_) (fun _ => ?_) <;> conv => whnf)
    · rename_i g1
      have g1 : (i : Int) < ((ints l).length : Nat) := of_decide_eq_true g1
      refine ⟨⟨by simp only; omega, g1⟩, fun row hrow => ?_⟩
      rw [ints_len] at g1
      have hlt : i < l.length := by omega
      obtain ⟨s, hs1, rfl⟩ := ints_get (by simpa using hrow)
      have htk : l.take (i + 1) = l.take i ++ [s] := by rw [List.take_add_one, hs1]; rfl
      have hin := List.mem_of_getElem? hs1
      have hno : ¬ (0 ≤ s ∧ s < S) → inSp S l = false := fun hn => by
        cases hq : inSp S l with
        | false => rfl
        | true =>
          have := List.all_eq_true.1 hq s hin
          simp at this
          exact absurd this hn
      have hye : 0 ≤ s → s < S → inSp S (l.take (i + 1)) = true := fun h1 h2 => by
        rw [htk, inSp_snoc, hok]; simp [h1, h2]
      have hmp : imany (l.take (i + 1)) (0, []) = iput s (IntKind.i64.wrap (ival s (imany (l.take i) (0, [])).2 + 1)) (imany (l.take i) (0, [])) := by rw [htk, imany_snoc]
      conv => whnf
      repeat' first
        | ((refine ilook_of ?_; conv => whnf))
        | ((refine iput_of ?_; conv => whnf))
        | refine AW.seq ?_
        | refine AW.block ?_
        | (refine AW.region tab_ok ?_; conv => whnf)
        | (refine AW.cond ?_; conv => whnf)
        | (refine AW.skip ?_; conv => whnf)
        | (refine AW.ret ?_; conv => whnf)
        | (refine AW.exit ?_; conv => whnf)
        | (refine And.intro (@rfl Val _) ?_; conv => whnf)
        | (refine And.intro (by decide) ?_; conv => whnf)
        | (refine cs (fun _ => ?_) (fun _ => ?_) <;> conv => whnf)
      · rename_i g2
        have g2 := of_decide_eq_true g2
        rw [hno (by omega)]
        exact ⟨rfl, rfl⟩
      · rename_i g2 g3
        have g2 := of_decide_eq_false g2
        have g3 : s ≥ (S : Nat) := of_decide_eq_true g3
        rw [hno (by omega)]
        exact ⟨rfl, rfl⟩
      · rename_i g2 g3
        have g2 := of_decide_eq_false g2
        have g3 : ¬ s ≥ (S : Nat) := of_decide_eq_false g3
        rw [← hmp, wrap64 (x := (i : Int) + 1) (by omega) (by omega)]
        exact ⟨⟨i + 1, by omega, hye (by omega) (by omega)⟩, ⟨⟨rfl, rfl, rfl, rfl, rfl, rfl, rfl, trivial⟩, rfl, rfl, ⟨[], rfl⟩, rfl⟩, show l.length - (i + 1) < l.length - i by omega⟩
    · rename_i g1
      have g1 : ¬ (i : Int) < ((ints l).length : Nat) := of_decide_eq_false g1
      rw [ints_len] at g1
      obtain rfl : i = l.length := by omega
      rw [List.take_length] at hok
      rw [if_pos hok, if_pos hok]
      have hT : leT (leBA (imany l (0, [])).2) (.node k name arg num tk tks uk uks label place ks) 0 = LT (imany l (0, [])) := by rw [← hL]
      have c4 := c3 (imany l (0, []))
      rw [hT] at c4 ⊢
      simp only [List.take_length]
      generalize LT (imany l (0, [])) = q at *
      generalize imany l (0, []) = mm at *
      obtain ⟨ck, ml⟩ := mm
      clear hT hL
      obtain ⟨kq, nq, gq, uq, tkq, tsq, ukq, usq, lq, pq, ksq⟩ := q
      repeat' first
        | refine AW.seq ?_
        | refine AW.block ?_
        | (refine AW.region tab_ok ?_; conv => whnf)
        | (refine AW.cond ?_; conv => whnf)
        | (refine AW.skip ?_; conv => whnf)
        | (refine AW.ret ?_; conv => whnf)
        | (refine AW.exit ?_; conv => whnf)
        | (refine (c4).mono ?_; rintro _ _ ⟨rfl, rfl⟩; conv => whnf)
        | (refine And.intro (@rfl Val _) ?_; conv => whnf)
        | (refine And.intro (by decide) ?_; conv => whnf)
        | (refine cs (fun _ => ?_) (fun _ => ?_) <;> conv => whnf)
      exact ⟨rfl, rfl⟩
  · have eE : atE t l = soundE t := by simp [atE, h]
    have eT : atT t l = tm0 := by simp [atT, eE, h]
    rw [eE, eT]
    generalize soundE t = S at *
    clear eE eT
    obtain ⟨k, name, arg, num, tk, tks, uk, uks, label, place, ks⟩ := t
    refine ACall.body tab_ok (ρ := 0) (N := 40) Try.func21 rfl rfl rfl rfl rfl ?_
    repeat' first
      | ((refine cs (fun _ => ?_) (fun g => absurd g (by simpa using h)); conv => whnf))
      | refine AW.seq ?_
      | refine AW.block ?_
      | (refine AW.region tab_ok ?_; conv => whnf)
      | (refine AW.cond ?_; conv => whnf)
      | (refine AW.skip ?_; conv => whnf)
      | (refine AW.ret ?_; conv => whnf)
      | (refine AW.exit ?_; conv => whnf)
      | (refine (c1).mono ?_; rintro _ _ ⟨rfl, rfl⟩; conv => whnf)
      | (refine And.intro (@rfl Val _) ?_; conv => whnf)
      | (refine And.intro (by decide) ?_; conv => whnf)
      | (refine cs (fun _ => ?_) (fun _ => ?_) <;> conv => whnf)
    exact ⟨rfl, rfl⟩
end Go.Proofs.Ytoglfnjankinnaa.E
