/- Texts, merged: Df11, TyOpen, Glue, TmOpen, OpenD, OpenS. No conditions. -/
import Derived.Test.YthmbncehoblgpaaDoorGenX9
import Derived.Test.YthmbncehoblgpaaDoorGenX4
import Derived.Test.YthmbncehoblgpaaDoorGenX2
import Derived.Deep.Slices
import Derived.WideKeyArgs
import Derived.ChangeArms
import Derived.ChangeOld
import Derived.Below
import Derived.WalkKit
import Derived.ProofKit
import Derived.OpenShut
import Derived.SizedLaws
import Derived.Test.YthmbncehoblgpaaDoorGenX5
import Derived.Test.YthmbncehoblgpaaDoorGenX8
/- Walks: lychgatelaw23.in, the law DefsKeeps. No conditions. -/
set_option linter.unusedVariables false
set_option linter.unusedSimpArgs false
namespace Go.Proofs.YthmbncehoblgpaaDoor.E
open Go

set_option maxRecDepth 10000 in
theorem lin_call (l : List ByteArray) (s : ByteArray) (hl : l.length ≤ 1000000) : ACall Tryd.prog 7 [.c (.d (.sl 0 1 (strs l))), .c (.d (.str s))] [] (fun o σ => o = .ret (.c (.d (.bool (inF l s)))) ∧ σ = []) := by
  refine ACall.body tab_ok (ρ := 0) (N := 17) Tryd.func7 rfl rfl rfl rfl rfl ?_
  repeat' first | refine AW.seq ?_ | refine AW.block ?_ | ((first | refine AW.region tab_ok ?_ | refine AW.cond ?_ | refine AW.skip ?_ | refine AW.ret ?_ | refine AW.exit ?_); conv => whnf) | ((first | refine And.intro (@rfl Val _) ?_ | refine And.intro (by decide) ?_ | refine cs (fun _ => ?_) (fun _ => ?_)) <;> conv => whnf)
  refine AW.loop (ι := InI l s) (fun x => ⟨17, [(9, .c (.d (.int .i64 x.i))), (8, .c (.d (.int .i64 (strs l).length))), (7, .c (.d (.sl 0 1 (strs l)))), (1, .c (.d (.str s)))], [], []⟩)
    (fun x => l.length - x.i) ⟨0, Nat.zero_le _, by simp⟩ 0 (fun _ => rfl) (Nat.le_of_ble_eq_true rfl) ⟨⟨rfl, rfl, rfl, rfl, trivial⟩, rfl, rfl, ⟨[], rfl⟩, rfl⟩ (fun x => ?_)
  obtain ⟨i, hi, hno⟩ := x
  repeat' first | refine AW.seq ?_ | refine AW.block ?_ | ((first | refine AW.region tab_ok ?_ | refine AW.cond ?_ | refine AW.skip ?_ | refine AW.ret ?_ | refine AW.exit ?_); conv => whnf) | ((first | refine And.intro (@rfl Val _) ?_ | refine And.intro (by decide) ?_ | refine cs (fun _ => ?_) (fun _ => ?_)) <;> conv => whnf)
  · rename_i h1
    simp only [strs_len] at h1 ⊢
    have := of_decide_eq_true h1
    refine ⟨by omega, fun row hrow => ?_⟩
    obtain ⟨t, ht, rfl⟩ := strs_get (by simpa using hrow)
    have hlt : i < l.length := (List.getElem?_eq_some_iff.1 ht).1
    conv => whnf
    repeat' first | refine AW.seq ?_ | refine AW.block ?_ | ((first | refine AW.region tab_ok ?_ | refine AW.cond ?_ | refine AW.skip ?_ | refine AW.ret ?_ | refine AW.exit ?_); conv => whnf) | ((first | refine And.intro (@rfl Val _) ?_ | refine And.intro (by decide) ?_ | refine cs (fun _ => ?_) (fun _ => ?_)) <;> conv => whnf)
    · rename_i h2
      have h2 := of_decide_eq_true h2
      subst h2
      have : inF l t = true := inF_iff.2 (List.mem_of_getElem? ht)
      rw [this]
      exact ⟨rfl, rfl⟩
    · rename_i h2
      have h2 := of_decide_eq_false h2
      rw [wrap64 (x := (i : Int) + 1) (by omega) (by omega)]
      exact ⟨⟨i + 1, hlt, InI.more hno ht h2⟩, ⟨⟨rfl, rfl, rfl, rfl, trivial⟩, rfl, rfl, ⟨[], rfl⟩, rfl⟩, show l.length - (i + 1) < l.length - i by omega⟩
  · rename_i h1
    simp only [strs_len] at h1
    have := of_decide_eq_false h1
    have e : inF l s = false := by
      rw [List.take_of_length_le (by omega)] at hno
      exact inF_not.2 hno
    rw [e]
    exact ⟨rfl, rfl⟩
structure NmI (n : Nat) where
  i : Nat
  hi : i ≤ n
structure FeI (l : List Df) where
  i : Nat
  hi : i ≤ l.length
theorem tmsame_refl2 (t : Tm) : tmright t = true → tmsame t t = true := by
  induction t using Tm.ind with
  | _ k name arg num tk tks uk uks label place ks ih =>
  intro h
  obtain ⟨o1, o2⟩ := tmright_own h
  have s1 : tmsames ks ks = true := (tmsames_all ks ks rfl).2 fun j x y hx hy => by
    rw [hx] at hy; cases hy
    exact ih x (List.mem_of_getElem? hx) (tmright_kid h (List.mem_of_getElem? hx))
  simp only [tmsame, ownSame, s1]
  cases h1 : typeK k <;> cases h2 : toK k <;> simp_all [sameS_self]
set_option maxRecDepth 10000 in
set_option maxHeartbeats 1000000 in
theorem law_DefsKeeps (l : List Df) (main : ByteArray) (hok : ∀ d ∈ l, DfOk d) : ACall Tryd.prog 3 [.c (.d (.sl 0 15 (drows l))), .c (.d (.str main))] [] (fun o σ => o = .ret (.c (.d (.bool true))) ∧ σ = []) := by
  have c1 := Link_call l main hok
  have c2 := Needs_call l main
  have hnl2 := needsN_len2 l main
  by_cases hz : (linkE l main).1 = 0
  · have hs0 : needsE l main = 0 := by
      refine Classical.byContradiction fun h => ?_
      rw [linkE, if_pos (show (soundF l main).2.1 ≠ 0 from h)] at hz
      exact h hz
    obtain ⟨hnl, hl⟩ := needsN_len hs0
    have hfew := few_link hz _ rfl
    have c5 := Link_call (l.filter (keepF (needsN l main) main)) main (fun d hd => hok d (hfew.2.2.1 d hd))
    rw [hfew.1, hfew.2.1] at c5
    have hfl := hfew.2.2.2
    have hc := linkR_check l main hz
    have hsame : sameT (linkR l main) (linkR l main) = true := by simp [sameT, hc, tmsame_refl2 _ (tmcheck_ok hc).2]
    have c6 := tSame_call (linkR l main) (linkR l main)
    rw [hsame] at c6
    have htr := fun name hn => needs_trans hs0 (name := name) hn
    have c7 := fun s => lin_call (needsN l main) s (by omega)
    have c8 := fun name => Needs_call l name
    have hl8 := fun name => needsN_len2 l name
    rw [errV, if_pos hz] at c1
    rw [hs0] at c2
    rw [show errV (0, 0, noB) = .nili from rfl] at c5
    clear hfew hsame hc hok
    have b1 : (((strs (needsN l main)).length : Int) ≥ ((drows l).length : Int)) = False := by rw [strs_len, drows_len]; simp; omega
    generalize needsN l main = need at *
    generalize linkR l main = T at *
    obtain ⟨k, name, arg, num, tk, tks, uk, uks, label, place, ks⟩ := T
    have b2 : decide (((strs need).length : Int) ≥ ((drows l).length : Int)) = false := by simp [b1]
    refine ACall.body tab_ok (ρ := 0) (N := 112) Tryd.func3 rfl rfl rfl rfl rfl ?_
    repeat' first | ((rw [b2]; conv => whnf)) | refine AW.seq ?_ | refine AW.block ?_ | ((first | refine AW.region tab_ok ?_ | refine AW.cond ?_ | refine AW.skip ?_ | refine AW.ret ?_ | refine AW.exit ?_); conv => whnf) | ((first | refine (c1).mono ?_ | refine (c2).mono ?_); rintro _ _ ⟨rfl, rfl⟩; conv => whnf) | ((first | refine And.intro (@rfl Val _) ?_ | refine And.intro (by decide) ?_ | refine cs (fun _ => ?_) (fun _ => ?_)) <;> conv => whnf)
    refine AW.ghostE 39 15 9 (by decide) rfl ?_
    refine AW.loop (ι := FeI l) (fun x => ⟨112, [(53, .c (.d (.int .i64 x.i))), (52, .c (.d (.int .i64 (drows l).length))), (51, .c (.d (.sl 0 15 (drows l)))), (9, .c (.own 1 (drows ((l.take x.i).filter (keepF need main))).length)), (7, .c (.d (.sl 0 1 (strs need)))), (5, .c (.ptr 0 0)), (0, .c (.d (.sl 0 15 (drows l)))), (1, .c (.d (.str main)))],
        [.var ((Tm.node k name arg num tk tks uk uks label place ks).cells.map .d), .row 39 15 (drows ((l.take x.i).filter (keepF need main)))], []⟩)
      (fun x => l.length - x.i) ⟨0, Nat.zero_le _⟩ 2 (fun _ => rfl) (Nat.le_of_ble_eq_true rfl) ⟨⟨rfl, rfl, rfl, rfl, rfl, rfl, rfl, rfl, trivial⟩, rfl, rfl, ⟨[], rfl⟩, rfl⟩ (fun x => ?_)
    obtain ⟨i, hi⟩ := x
    repeat' first | refine AW.seq ?_ | refine AW.block ?_ | ((first | refine AW.region tab_ok ?_ | refine AW.cond ?_ | refine AW.skip ?_ | refine AW.ret ?_ | refine AW.exit ?_); conv => whnf) | ((first | refine And.intro (@rfl Val _) ?_ | refine And.intro (by decide) ?_ | refine cs (fun _ => ?_) (fun _ => ?_)) <;> conv => whnf)
    · rename_i h
      have := of_decide_eq_true h
      simp only [drows_len] at this
      have hil : i < l.length := by omega
      obtain ⟨d, hd⟩ : ∃ d, l[i]? = some d := ⟨_, List.getElem?_eq_getElem hil⟩
      have hrow : (drows l)[i]? = some d.cells := by simp [drows, hd]
      have c9 := c7 d.name
      have hfil : ∀ b, keepF need main d = b → (l.take (i + 1)).filter (keepF need main) = (l.take i).filter (keepF need main) ++ (if b = true then [d] else []) := fun b hb => by
        rw [take_snoc hd, List.filter_append]
        congr 1
        cases b <;> simp [hb]
      have hkeep : keepF need main d = (decide (d.name = main) || inF need d.name) := rfl
      have hfl0 : ((l.take i).filter (keepF need main)).length ≤ 256 := Nat.le_trans (List.length_filter_le _ _) (by simp; omega)
      have hrows : drows ((l.take i).filter (keepF need main)) ++ [d.cells] = drows ((l.take i).filter (keepF need main) ++ [d]) := by simp [drows]
      obtain ⟨s, ⟨a, bs⟩, ⟨q, name2, arg2, num2, tk2, tks2, uk2, uks2, label2, place2, ks2⟩, pl⟩ := d
      simp only [Df.cells] at hrows
      simp only at c9 hkeep
      refine ⟨by rw [drows_len]; simp only; omega, fun row hr => ?_⟩
      obtain rfl := Option.some.inj (hrow.symm.trans hr)
      clear hr
      conv => whnf
      repeat' first | refine AW.seq ?_ | refine AW.block ?_ | ((first | refine AW.region tab_ok ?_ | refine AW.cond ?_ | refine AW.skip ?_ | refine AW.ret ?_ | refine AW.exit ?_); conv => whnf) | (refine (c9).mono ?_; rintro _ _ ⟨rfl, rfl⟩; conv => whnf) | ((first | refine And.intro (@rfl Val _) ?_ | refine And.intro (by decide) ?_ | refine cs (fun _ => ?_) (fun _ => ?_)) <;> conv => whnf)
      rotate_right
      · rename_i h1 h2
        have h1 : ¬ s = main := of_decide_eq_false h1
        have h2 : inF need s = false := by simpa using h2
        have e := hfil false (by rw [hkeep]; simp [h1, h2])
        rw [if_neg (by decide), List.append_nil] at e
        rw [wrap64 (x := (i : Int) + 1) (by omega) (by omega)]
        simp only [← e]
        exact ⟨⟨i + 1, hil⟩, ⟨⟨rfl, rfl, rfl, rfl, rfl, rfl, rfl, rfl, trivial⟩, rfl, rfl, ⟨[_], rfl⟩, rfl⟩, show l.length - (i + 1) < l.length - i by omega⟩
      all_goals
        have hb : keepF need main ⟨s, .node a bs, .node q name2 arg2 num2 tk2 tks2 uk2 uks2 label2 place2 ks2, pl⟩ = true := by
          rw [hkeep, Bool.or_eq_true]
          first
          | exact .inl (by assumption)
          | (rename_i h2; exact .inr (by simpa using h2))
        have e := hfil true hb
        rw [if_pos rfl] at e
        rw [← e] at hrows
        have e2 : (drows ((l.take i).filter (keepF need main))).length + ([[.str s, .int .i8 a, .sl 0 2 (Ty.rows bs), .int .i8 q, .str name2, .str arg2, .int .i64 num2, .int .i8 tk2, .sl 0 2 (Ty.rows tks2), .int .i8 uk2, .sl 0 2 (Ty.rows uks2), .int .i64 label2, .int .i64 place2, .sl 0 11 (Tm.rows ks2), .int .i64 pl]] : List (List DV)).length = (drows ((l.take (i + 1)).filter (keepF need main))).length := by rw [← hrows, List.length_append]
        refine ⟨⟨rfl, ?_, ?_⟩, ?_⟩
        · simp only [drows_len, List.length_cons, List.length_nil]; omega
        · simp only [drows_len, List.length_cons, List.length_nil]; omega
        conv => whnf
        repeat' first | refine AW.seq ?_ | refine AW.block ?_ | ((first | refine AW.region tab_ok ?_ | refine AW.cond ?_ | refine AW.skip ?_ | refine AW.ret ?_ | refine AW.exit ?_); conv => whnf) | ((first | refine And.intro (@rfl Val _) ?_ | refine And.intro (by decide) ?_ | refine cs (fun _ => ?_) (fun _ => ?_)) <;> conv => whnf)
        rw [wrap64 (x := (i : Int) + 1) (by omega) (by omega)]
        rw [show (drows ((l.take i).filter (keepF need main))).length + ([[.str s, .int .i8 a, .sl 0 2 (Ty.rows bs), .int .i8 q, .str name2, .str arg2, .int .i64 num2, .int .i8 tk2, .sl 0 2 (Ty.rows tks2), .int .i8 uk2, .sl 0 2 (Ty.rows uks2), .int .i64 label2, .int .i64 place2, .sl 0 11 (Tm.rows ks2), .int .i64 pl]] : List (List DV)).length = _ from e2, hrows]
        exact ⟨⟨i + 1, hil⟩, ⟨⟨rfl, rfl, rfl, rfl, rfl, rfl, rfl, rfl, trivial⟩, rfl, rfl, ⟨[_], rfl⟩, rfl⟩, show l.length - (i + 1) < l.length - i by omega⟩
    rename_i h
    have := of_decide_eq_false h
    simp only [drows_len] at this
    obtain rfl : i = l.length := by omega
    rw [List.take_length]
    generalize l.filter (keepF need main) = F at *
    clear h this c7
    refine ⟨rfl, ?_⟩
    conv => whnf
    repeat' first | refine AW.seq ?_ | refine AW.block ?_ | ((first | refine AW.region tab_ok ?_ | refine AW.cond ?_ | refine AW.skip ?_ | refine AW.ret ?_ | refine AW.exit ?_); conv => whnf) | ((first | refine (c5).mono ?_ | refine (c6).mono ?_); rintro _ _ ⟨rfl, rfl⟩; conv => whnf) | ((first | refine And.intro (@rfl Val _) ?_ | refine And.intro (by decide) ?_ | refine cs (fun _ => ?_) (fun _ => ?_)) <;> conv => whnf)
    refine AW.loop (ι := NmI need.length) (fun x => ⟨112, [(88, .c (.d (.int .i64 x.i))), (87, .c (.d (.int .i64 (strs need).length))), (86, .c (.d (.sl 0 1 (strs need)))), (7, .c (.d (.sl 0 1 (strs need)))), (0, .c (.d (.sl 0 15 (drows l))))],
        [.var ((Tm.node k name arg num tk tks uk uks label place ks).cells.map .d), .gone, .var ((Tm.node k name arg num tk tks uk uks label place ks).cells.map .d)], []⟩)
      (fun x => need.length - x.i) ⟨0, Nat.zero_le _⟩ 3 (fun _ => rfl) (Nat.le_of_ble_eq_true rfl) ⟨⟨rfl, rfl, rfl, rfl, rfl, trivial⟩, rfl, rfl, ⟨[], rfl⟩, rfl⟩ (fun x => ?_)
    obtain ⟨j, hj⟩ := x
    repeat' first | refine AW.seq ?_ | refine AW.block ?_ | ((first | refine AW.region tab_ok ?_ | refine AW.cond ?_ | refine AW.skip ?_ | refine AW.ret ?_ | refine AW.exit ?_); conv => whnf) | ((first | refine And.intro (@rfl Val _) ?_ | refine And.intro (by decide) ?_ | refine cs (fun _ => ?_) (fun _ => ?_)) <;> conv => whnf)
    rotate_left
    · exact ⟨rfl, rfl⟩
    rename_i h
    have := of_decide_eq_true h
    simp only [strs_len] at this
    have hjl : j < need.length := by omega
    refine ⟨by simp only [strs_len]; omega, fun row hr => ?_⟩
    obtain ⟨nm, hnm, rfl⟩ := strs_get (by simpa using hr)
    obtain ⟨he1, he2⟩ := htr nm (List.mem_of_getElem? hnm)
    have c10 := c8 nm
    rw [he1] at c10
    have hol := hl8 nm
    clear h this hr
    generalize needsN l nm = own at *
    conv => whnf
    repeat' first | refine AW.seq ?_ | refine AW.block ?_ | ((first | refine AW.region tab_ok ?_ | refine AW.cond ?_ | refine AW.skip ?_ | refine AW.ret ?_ | refine AW.exit ?_); conv => whnf) | (refine (c10).mono ?_; rintro _ _ ⟨rfl, rfl⟩; conv => whnf) | ((first | refine And.intro (@rfl Val _) ?_ | refine And.intro (by decide) ?_ | refine cs (fun _ => ?_) (fun _ => ?_)) <;> conv => whnf)
    refine AW.loop (ι := NmI own.length) (fun x => ⟨112, [(102, .c (.d (.int .i64 x.i))), (101, .c (.d (.int .i64 (strs own).length))), (100, .c (.d (.sl 0 1 (strs own)))), (88, .c (.d (.int .i64 j))), (87, .c (.d (.int .i64 (strs need).length))), (86, .c (.d (.sl 0 1 (strs need)))), (7, .c (.d (.sl 0 1 (strs need)))), (0, .c (.d (.sl 0 15 (drows l))))],
        [.var ((Tm.node k name arg num tk tks uk uks label place ks).cells.map .d), .gone, .var ((Tm.node k name arg num tk tks uk uks label place ks).cells.map .d)], []⟩)
      (fun x => own.length - x.i) ⟨0, Nat.zero_le _⟩ 3 (fun _ => rfl) (Nat.le_of_ble_eq_true rfl) ⟨⟨rfl, rfl, rfl, rfl, rfl, rfl, rfl, rfl, trivial⟩, rfl, rfl, ⟨[], rfl⟩, rfl⟩ (fun x => ?_)
    obtain ⟨q, hq⟩ := x
    repeat' first | refine AW.seq ?_ | refine AW.block ?_ | ((first | refine AW.region tab_ok ?_ | refine AW.cond ?_ | refine AW.skip ?_ | refine AW.ret ?_ | refine AW.exit ?_); conv => whnf) | ((first | refine And.intro (@rfl Val _) ?_ | refine And.intro (by decide) ?_ | refine cs (fun _ => ?_) (fun _ => ?_)) <;> conv => whnf)
    rotate_left
    · rw [wrap64 (x := (j : Int) + 1) (by omega) (by omega)]
      exact ⟨⟨j + 1, hjl⟩, ⟨⟨rfl, rfl, rfl, rfl, rfl, trivial⟩, rfl, rfl, ⟨[], rfl⟩, rfl⟩, show need.length - (j + 1) < need.length - j by omega⟩
    rename_i h
    have := of_decide_eq_true h
    simp only [strs_len] at this
    have hql : q < own.length := by omega
    refine ⟨by simp only [strs_len]; omega, fun row hr => ?_⟩
    obtain ⟨s, hs, rfl⟩ := strs_get (by simpa using hr)
    have c11 := lin_call need s (by omega)
    rw [inF_iff.2 (he2 s (List.mem_of_getElem? hs))] at c11
    clear h this hr
    conv => whnf
    repeat' first | refine AW.seq ?_ | refine AW.block ?_ | ((first | refine AW.region tab_ok ?_ | refine AW.cond ?_ | refine AW.skip ?_ | refine AW.ret ?_ | refine AW.exit ?_); conv => whnf) | (refine (c11).mono ?_; rintro _ _ ⟨rfl, rfl⟩; conv => whnf) | ((first | refine And.intro (@rfl Val _) ?_ | refine And.intro (by decide) ?_ | refine cs (fun _ => ?_) (fun _ => ?_)) <;> conv => whnf)
    rw [wrap64 (x := (q : Int) + 1) (by omega) (by omega)]
    exact ⟨⟨q + 1, hql⟩, ⟨⟨rfl, rfl, rfl, rfl, rfl, rfl, rfl, rfl, trivial⟩, rfl, rfl, ⟨[], rfl⟩, rfl⟩, show own.length - (q + 1) < own.length - q by omega⟩
  · have hne : ∀ x, errV (linkE l main) = x → x = .ifc 51 (.rp 0 [.int .i64 (linkE l main).1, .int .i64 (linkE l main).2.1, .str (linkE l main).2.2]) := fun x h => by rw [← h, errV, if_neg hz]
    rw [errV, if_neg hz] at c1
    have hor : needsE l main = 0 → (needsN l main).length < l.length := fun h => (needsN_len h).1
    generalize needsN l main = need at *
    generalize linkR l main = T at *
    generalize needsE l main = e at *
    clear hne hz
    generalize linkE l main = f at *
    obtain ⟨k, name, arg, num, tk, tks, uk, uks, label, place, ks⟩ := T
    refine ACall.body tab_ok (ρ := 0) (N := 112) Tryd.func3 rfl rfl rfl rfl rfl ?_
    repeat' first | refine AW.seq ?_ | refine AW.block ?_ | ((first | refine AW.region tab_ok ?_ | refine AW.cond ?_ | refine AW.skip ?_ | refine AW.ret ?_ | refine AW.exit ?_); conv => whnf) | ((first | refine (c1).mono ?_ | refine (c2).mono ?_); rintro _ _ ⟨rfl, rfl⟩; conv => whnf) | ((first | refine And.intro (@rfl Val _) ?_ | refine And.intro (by decide) ?_ | refine cs (fun _ => ?_) (fun _ => ?_)) <;> conv => whnf)
    · exact ⟨rfl, rfl⟩
    · rename_i h
      have h : e = 0 := by simpa using h
      have h2 := hor h
      exact ⟨outb (by show decide (((strs need).length : Int) < ((drows l).length : Int)) = true; rw [strs_len, drows_len]; simp; exact h2), rfl⟩
end Go.Proofs.YthmbncehoblgpaaDoor.E

/- From a row's reading of an argument to a tree. No conditions. -/
set_option linter.unusedVariables false
set_option linter.unusedSimpArgs false
namespace Go.Proofs.YthmbncehoblgpaaDoor.E
open Go Go.RowKit

/-- All that was there is one region. -/
def rgAll (w : World) : Nat → Option Nat := fun b => if b < w.heap.size then some 0 else none
def czAll (w : World) : Cz := ⟨[], rgAll w⟩
theorem inv_all (w : World) (hg : GlobOk w (czAll w) := by intro a v h; simp [globs] at h) : Inv w (czAll w) [] :=
  ⟨rfl, fun i o e h => by simp at h, fun i o e b h => by simp at h, fun i j o p e f b h => by simp at h, fun b r h => (by
    simp only [czAll, rgAll] at h
    split at h
    · assumption
    · cases h), hg⟩

theorem cell_parts {w : World} {a : Addr} {v : Value} (h : w.cell? a = some v) : a.spot = none ∧ ∃ cs e fz, w.heap[a.block]? = some (.cells cs e fz) ∧ cs[a.off]? = some v := by
  have hs := World.cell?_spot h
  refine ⟨hs, ?_⟩
  unfold World.cell? at h
  split at h
  · rename_i cs e fz hh
    exact ⟨cs, e, fz, hh, by simpa [hs] using h⟩
  · cases h

noncomputable def fld (t i : Nat) : Field := match Tryd.prog.underlying t with
  | some (.struct fs) => fs.getD i default
  | _ => default
theorem u30 : Tryd.prog.underlying 26 = some (.struct #[fld 26 0, fld 26 1]) := by kernel_rfl
theorem f30_0 : (fld 26 0).type = 23 ∧ (fld 26 0).offset = 0 := ⟨by kernel_rfl, by kernel_rfl⟩
theorem f30_1 : (fld 26 1).type = 24 ∧ (fld 26 1).offset = 1 := ⟨by kernel_rfl, by kernel_rfl⟩
theorem u28 : Tryd.prog.underlying 24 = some (.slice 26) := by kernel_rfl
theorem u27 : Tryd.prog.underlying 23 = some (.int .i8) := by kernel_rfl
theorem c30 : Tryd.prog.cellsOf 26 = 2 := by kernel_rfl
theorem c28 : Tryd.prog.cellsOf 24 = 1 := by kernel_rfl
theorem c27 : Tryd.prog.cellsOf 23 = 1 := by kernel_rfl

/-- The cells of a value stand for the data. -/
def Stand (w : World) (cs : List Value) (xs : List DV) : Prop := cs.length = xs.length ∧ ∀ (i : Nat) v x, cs[i]? = some v → xs[i]? = some x → RepD w (rgAll w) v x

section
variable {H : Type} {enc : TypeId × Value → H} {w : World} {base : Nat} {spare : Nat → Bool} {held : Bool}

theorem list_of {α : Type} {Q : Nat → α → Prop} : ∀ n, (∀ i, i < n → ∃ x, Q i x) → ∃ xs : List α, xs.length = n ∧ ∀ (i : Nat) x, xs[i]? = some x → Q i x
  | 0, _ => ⟨[], rfl, fun i x h => by simp at h⟩
  | n + 1, h => by
    obtain ⟨xs, h1, h2⟩ := list_of n (fun i hi => h i (by omega))
    obtain ⟨x, hx⟩ := h n (by omega)
    refine ⟨xs ++ [x], by simp [h1], fun i y hy => ?_⟩
    by_cases hi : i < n
    · rw [List.getElem?_append_left (by omega)] at hy
      exact h2 i y hy
    · rw [List.getElem?_append_right (by omega)] at hy
      cases he : i - xs.length with
      | zero =>
        rw [he] at hy
        simp at hy
        subst hy
        obtain rfl : i = n := by omega
        exact hx
      | succ k => rw [he] at hy; simp at hy

theorem add_none (b o k : Nat) : (⟨b, o, none⟩ : Addr).add k = ⟨b, o + k, none⟩ := by
  unfold Addr.add
  split
  · rename_i h; subst h; rfl
  · rfl

/-- A slice, from its elements. -/
theorem stand_slice {α : Type} (sz : Nat) (hsz : 0 < sz) (f : α → List DV) (hf : ∀ x, (f x).length = sz) {a : Addr} {len cap : Nat} (hlc : len ≤ cap) (h : ∀ i, i < len → ∃ x cs, w.cells? base (a.add (i * sz)) sz = some cs ∧ Stand w cs (f x)) :
    ∃ xs : List α, xs.length = len ∧ RepD w (rgAll w) (.slice (some a) len cap) (.sl 0 sz (xs.map f)) := by
  obtain ⟨xs, hx1, hx2⟩ := list_of len h
  refine ⟨xs, hx1, ?_⟩
  cases xs with
  | nil =>
    simp at hx1
    subst hx1
    exact .sl0 (some a) 0 sz cap
  | cons x0 xr =>
    obtain ⟨cs0, g1, g2⟩ := hx2 0 x0 rfl
    obtain ⟨_, g3, g4⟩ := World.cells?_some g1
    have hc0 := g4 0 hsz
    rw [List.getElem?_eq_getElem (by omega)] at hc0
    obtain ⟨k1, cs, e, fz, k2, k3⟩ := cell_parts hc0
    obtain ⟨b, o, spot⟩ := a
    have hspot : spot = none := by simpa [Addr.add] using k1
    subst hspot
    simp only [Nat.zero_mul, add_none, Nat.add_zero] at k2
    have hlt : b < w.heap.size := by
      rcases Nat.lt_or_ge b w.heap.size with h | h
      · exact h
      · rw [Array.getElem?_eq_none h] at k2; cases k2
    have hcell : ∀ (j i : Nat) x, (x0 :: xr)[j]? = some x → i < sz → ∃ v, cs[o + j * sz + i]? = some v ∧ ∀ y, (f x)[i]? = some y → RepD w (rgAll w) v y := fun j i x hj hi => by
      obtain ⟨cs', q1, q2, q3⟩ := hx2 j x hj
      obtain ⟨_, q4, q5⟩ := World.cells?_some q1
      have q6 := q5 i hi
      rw [List.getElem?_eq_getElem (by omega)] at q6
      obtain ⟨_, cs2, e2, fz2, r2, r3⟩ := cell_parts q6
      simp only [add_none] at r2 r3
      rw [k2] at r2
      cases r2
      exact ⟨_, r3, fun y hy => q3 i _ y (List.getElem?_eq_getElem (by omega)) hy⟩
    refine .sl 0 sz b o len cap _ cs e fz (fun j i => (cs[o + j * sz + i]?).getD undef) ⟨⟨0, by simp [rgAll, hlt], rfl, .inl rfl⟩, fun h => by rcases h with h | h <;> cases h⟩ k2 (by simpa using hx1.symm) hlc (fun row hr => ?_) (fun j i hj hi => ?_) (fun j i row y hj hi => ?_)
    · obtain ⟨x, _, rfl⟩ := List.mem_map.1 hr
      exact hf x
    · obtain ⟨v, hv, _⟩ := hcell j i _ (List.getElem?_eq_getElem (by omega)) hi
      rw [hv]; rfl
    · rw [List.getElem?_map] at hj
      cases hjx : (x0 :: xr)[j]? with
      | none => rw [hjx] at hj; cases hj
      | some x =>
        rw [hjx] at hj
        cases hj
        have hil : i < sz := by
          have := (List.getElem?_eq_some_iff.1 hi).1
          rw [hf] at this; exact this
        obtain ⟨v, hv, hr⟩ := hcell j i x hjx hil
        show RepD w (rgAll w) ((cs[o + j * sz + i]?).getD undef) y
        rw [hv]
        exact hr y hi

theorem rows_map : ∀ ks : List Ty, Ty.rows ks = ks.map Ty.cells
  | [] => rfl
  | t :: l => by simp [Ty.rows, rows_map l]
theorem cells_len (t : Ty) : t.cells.length = 2 := by cases t; rfl

end

/-- What was there is as it was. -/
theorem below_same {w w' : World} (h : Below w.heap.size w w') {p : MemPlace} (hp : p.block < w.heap.size) : w.sameAt w' p := by
  cases p with
  | cell b off =>
    show w'.cell? _ = w.cell? _
    unfold World.cell?
    rw [h.block b hp]
  | map b => exact h.block b hp
end Go.Proofs.YthmbncehoblgpaaDoor.E

/- From a law's walk to its row: parts for all rows. No conditions. -/
namespace Go.Proofs.YthmbncehoblgpaaDoor.E
open Go Go.RowKit

theorem rep2 {w : World} {C : Cz} {u v : Value} {x y : Val} (h : RepV w C u x) (g : RepV w C v y) : RepVs w C #[u, v].toList [x, y] := .cons h (.cons g ⟨rfl, fun i v x h => by simp at h⟩)
/-- A law that is true: as a call. -/
theorem law_true {P : Program} {f : FuncId} {args : List Val} (h : ACall P f args [] (fun o σ => o = .ret (.c (.d (.bool true))) ∧ σ = [])) {w : World} {vs : Array Value} (hv : RepVs w (czAll w) vs.toList args) (hg : GlobOk w (czAll w) := by intro a v h; simp [globs] at h) :
    Calls P f vs w fun e w' => e = .returned (.bool true) ∧ Below w.heap.size w w' :=
  (h.out w (czAll w) vs (inv_all w hg) hv).mono fun e w' ⟨o, σ', C', ⟨ho, hs⟩, hI, hX, hO⟩ => by
    subst ho; subst hs
    obtain ⟨v, rfl, hr⟩ := hO
    have := bool_of hr
    subst this
    exact ⟨rfl, hX.os, hX.tape, hX.output, hX.size, fun k hk => hX.frame k hk (fun ⟨i, o, e, h, _⟩ => by simp at h) (fun r hr => by simp only [czAll, rgAll] at hr; rw [if_pos hk] at hr; cases hr; rfl)⟩
end Go.Proofs.YthmbncehoblgpaaDoor.E

/- From a row's reading of a term to a tree. No conditions. -/
set_option linter.unusedVariables false
set_option linter.unusedSimpArgs false
namespace Go.Proofs.YthmbncehoblgpaaDoor.E
open Go Go.RowKit

theorem u39 : Tryd.prog.underlying 29 = some (.struct #[fld 29 0, fld 29 1, fld 29 2, fld 29 3, fld 29 4, fld 29 5, fld 29 6, fld 29 7, fld 29 8]) := by kernel_rfl
theorem f39_0 : (fld 29 0).type = 23 ∧ (fld 29 0).offset = 0 := ⟨by kernel_rfl, by kernel_rfl⟩
theorem f39_1 : (fld 29 1).type = 9 ∧ (fld 29 1).offset = 1 := ⟨by kernel_rfl, by kernel_rfl⟩
theorem f39_2 : (fld 29 2).type = 9 ∧ (fld 29 2).offset = 2 := ⟨by kernel_rfl, by kernel_rfl⟩
theorem f39_3 : (fld 29 3).type = 2 ∧ (fld 29 3).offset = 3 := ⟨by kernel_rfl, by kernel_rfl⟩
theorem f39_4 : (fld 29 4).type = 26 ∧ (fld 29 4).offset = 4 := ⟨by kernel_rfl, by kernel_rfl⟩
theorem f39_5 : (fld 29 5).type = 26 ∧ (fld 29 5).offset = 6 := ⟨by kernel_rfl, by kernel_rfl⟩
theorem f39_6 : (fld 29 6).type = 3 ∧ (fld 29 6).offset = 8 := ⟨by kernel_rfl, by kernel_rfl⟩
theorem f39_7 : (fld 29 7).type = 3 ∧ (fld 29 7).offset = 9 := ⟨by kernel_rfl, by kernel_rfl⟩
theorem f39_8 : (fld 29 8).type = 27 ∧ (fld 29 8).offset = 10 := ⟨by kernel_rfl, by kernel_rfl⟩
theorem u37 : Tryd.prog.underlying 27 = some (.slice 29) := by kernel_rfl
theorem u9 : Tryd.prog.underlying 9 = some .string := by kernel_rfl
theorem u2 : Tryd.prog.underlying 2 = some (.int .i64) := by kernel_rfl
theorem u3 : Tryd.prog.underlying 3 = some (.int .i64) := by kernel_rfl
theorem c39 : Tryd.prog.cellsOf 29 = 11 := by kernel_rfl
theorem c37 : Tryd.prog.cellsOf 27 = 1 := by kernel_rfl
theorem c9 : Tryd.prog.cellsOf 9 = 1 := by kernel_rfl
theorem c2 : Tryd.prog.cellsOf 2 = 1 := by kernel_rfl
theorem c3 : Tryd.prog.cellsOf 3 = 1 := by kernel_rfl
theorem tcells_len (t : Tm) : t.cells.length = 11 := by cases t; rfl
section
variable {H : Type} {enc : TypeId × Value → H} {w : World} {base : Nat} {spare : Nat → Bool} {held : Bool}
end
end Go.Proofs.YthmbncehoblgpaaDoor.E

/- From a row's reading of definitions to a list. No conditions. -/
set_option linter.unusedVariables false
set_option linter.unusedSimpArgs false
namespace Go.Proofs.YthmbncehoblgpaaDoor.E
open Go Go.RowKit

theorem uD : Tryd.prog.underlying 39 = some (.struct #[fld 39 0, fld 39 1, fld 39 2, fld 39 3]) := by kernel_rfl
theorem fD_0 : (fld 39 0).type = 9 ∧ (fld 39 0).offset = 0 := ⟨by kernel_rfl, by kernel_rfl⟩
theorem fD_1 : (fld 39 1).type = 26 ∧ (fld 39 1).offset = 1 := ⟨by kernel_rfl, by kernel_rfl⟩
theorem fD_2 : (fld 39 2).type = 29 ∧ (fld 39 2).offset = 3 := ⟨by kernel_rfl, by kernel_rfl⟩
theorem fD_3 : (fld 39 3).type = 3 ∧ (fld 39 3).offset = 14 := ⟨by kernel_rfl, by kernel_rfl⟩
theorem uDs : Tryd.prog.underlying 22 = some (.slice 39) := by kernel_rfl
theorem cD : Tryd.prog.cellsOf 39 = 15 := by kernel_rfl
theorem dcells_len (d : Df) : d.cells.length = 15 := by obtain ⟨s, ⟨a, bs⟩, ⟨k, name, arg, num, tk, tks, uk, uks, label, place, ks⟩, pl⟩ := d; rfl
theorem cells15 {α : Type} {l : List α} (h : l.length = 15) : ∃ a b c d e f g i j k m n o p q, l = [a, b, c, d, e, f, g, i, j, k, m, n, o, p, q] := by
  match l, h with
  | [a, b, c, d, e, f, g, i, j, k, m, n, o, p, q], _ => exact ⟨_, _, _, _, _, _, _, _, _, _, _, _, _, _, _, rfl⟩
section
variable {H : Type} {enc : TypeId × Value → H} {w : World} {base : Nat} {spare : Nat → Bool} {held : Bool}
end
end Go.Proofs.YthmbncehoblgpaaDoor.E

/- From a row's reading to trees, with the reach of each slice. No conditions. -/
set_option linter.unusedVariables false
set_option linter.unusedSimpArgs false
namespace Go.Proofs.YthmbncehoblgpaaDoor.E
open Go Go.RowKit

section
variable {H : Type} {enc : TypeId × Value → H} {w : World} {base : Nat} {spare : Nat → Bool} {held : Bool}
theorem stand_sliceQ {α : Type} (Q : α → Prop) (sz : Nat) (hsz : 0 < sz) (f : α → List DV) (hf : ∀ x, (f x).length = sz) {a : Addr} {len cap : Nat} (hlc : len ≤ cap) (h : ∀ i, i < len → ∃ x cs, w.cells? base (a.add (i * sz)) sz = some cs ∧ Stand w cs (f x) ∧ Q x) :
    ∃ xs : List α, xs.length = len ∧ (∀ x ∈ xs, Q x) ∧ RepD w (rgAll w) (.slice (some a) len cap) (.sl 0 sz (xs.map f)) := by
  obtain ⟨xs, h1, h2⟩ := stand_slice (α := {x : α // Q x}) (w := w) (base := base) sz hsz (fun x => f x.1) (fun x => hf x.1) hlc (fun i hi => by
    obtain ⟨x, cs, g1, g2, g3⟩ := h i hi
    exact ⟨⟨x, g3⟩, cs, g1, g2⟩)
  refine ⟨xs.map (·.1), by simpa using h1, fun x hx => ?_, by simpa [List.map_map] using h2⟩
  obtain ⟨y, _, rfl⟩ := List.mem_map.1 hx
  exact y.2
theorem weights_part {P : Program} {ts : List TypeId} {ds : List (DataW H)} (h : (DataW.weightsEach P ts ds).all (· ≤ reachBytes) = true) {j : Nat} {t : TypeId} {d : DataW H} (ht : ts[j]? = some t) (hd : ds[j]? = some d) : (d.weights P t).all (· ≤ reachBytes) = true :=
  List.all_eq_true.2 fun n hn => List.all_eq_true.1 h n (DataW.weights_mem_each ht hd n hn)
theorem weights_all {P : Program} {e : TypeId} : ∀ {ds : List (DataW H)} {j : Nat} {d : DataW H}, ds[j]? = some d → ∀ n ∈ d.weights P e, n ∈ DataW.weightsAll P e ds
  | d0 :: ds, 0, d, hd, n, hn => by
    simp only [List.getElem?_cons_zero, Option.some.injEq] at hd
    subst hd
    simp only [DataW.weightsAll, List.mem_append]
    exact .inl hn
  | d0 :: ds, j + 1, d, hd, n, hn => by
    simp only [List.getElem?_cons_succ] at hd
    simp only [DataW.weightsAll, List.mem_append]
    exact .inr (weights_all hd n hn)
  | [], _, _, hd, _, _ => by simp at hd
theorem weights_elem {P : Program} {t e : TypeId} {elems rest : List (DataW H)} (hu : P.underlying t = some (.slice e)) (h : ((DataW.slice elems rest).weights P t).all (· ≤ reachBytes) = true) :
    elems.length * P.bytesOf e ≤ reachBytes ∧ ∀ {j : Nat} {d : DataW H}, elems[j]? = some d → (d.weights P e).all (· ≤ reachBytes) = true := by
  simp only [DataW.weights, hu] at h
  rw [List.all_eq_true] at h
  refine ⟨?_, fun hd => List.all_eq_true.2 fun n hn => h n (List.mem_cons_of_mem _ (List.mem_append.2 (.inl (weights_all hd n hn))))⟩
  have h1 := h _ (List.mem_cons_self ..)
  have h1 : (elems.length + rest.length) * P.bytesOf e ≤ reachBytes := of_decide_eq_true h1
  exact Nat.le_trans (Nat.mul_le_mul_right _ (Nat.le_add_right _ _)) h1
theorem b30 : Tryd.prog.bytesOf 26 = 32 := by kernel_rfl
theorem b39 : Tryd.prog.bytesOf 29 = 152 := by kernel_rfl
theorem reach_le {n : Nat} (h : n ≤ reachBytes) : n ≤ 140737488355328 := by
  have : reachBytes < 2 ^ 47 := by decide
  omega
set_option maxRecDepth 100000 in
theorem open_tyS : ∀ (fuel : Nat) (cs : List Value) x, DataW.trod enc Tryd.prog w base spare held fuel 26 cs = some x → (x.1.weights Tryd.prog 26).all (· ≤ reachBytes) = true → ∃ t : Ty, Stand w cs t.cells ∧ TyOk t
  | 0, cs, x, h, hz => by simp [DataW.trod] at h
  | fuel + 1, cs, x, h, hz => by
    obtain ⟨xs, n, hn, hx, hl, hxl, hf⟩ := DataW.trod_struct u30 h
    subst hx
    simp only [DataW.weights, u30] at hz
    obtain rfl : fuel = n := by omega
    rw [c30] at hl
    obtain ⟨a, b, rfl⟩ : ∃ a b, cs = [a, b] := by
      match cs, hl with
      | [a, b], _ => exact ⟨a, b, rfl⟩
    have h0 := hf 0 (fld 26 0) rfl
    have h1 := hf 1 (fld 26 1) rfl
    rw [f30_0.1, f30_0.2, c27] at h0
    rw [f30_1.1, f30_1.2, c28] at h1
    have hx0 : 0 < xs.length := by rw [hxl]; exact Nat.zero_lt_succ _
    have hx1 : 1 < xs.length := by rw [hxl]; exact Nat.lt_succ_self _
    rw [List.getElem?_eq_getElem hx0] at h0
    rw [List.getElem?_eq_getElem hx1] at h1
    have hz1 := weights_part hz (j := 1) (t := 24) (by rw [← f30_1.1]; rfl) (d := xs[1].1) (by rw [List.getElem?_map, List.getElem?_eq_getElem hx1]; rfl)
    simp only [List.drop_zero, List.take_succ_cons, List.take_zero, List.drop_succ_cons] at h0 h1
    obtain ⟨k, hk, _, _⟩ := DataW.trod_int u27 h0
    cases hk
    have two : ∀ ks : List Ty, RepD w (rgAll w) b (.sl 0 2 (Ty.rows ks)) → TyOk (.node k ks) → ∃ t : Ty, Stand w [.int .i8 k, b] t.cells ∧ TyOk t := fun ks hr hok =>
      ⟨.node k ks, ⟨rfl, fun i v y hv hy => by
        match i with
        | 0 => simp [Ty.cells] at hv hy; subst hv; subst hy; exact .int _ _
        | 1 => simp [Ty.cells] at hv hy; subst hv; subst hy; exact hr
        | i + 2 => simp at hv⟩, hok⟩
    rcases DataW.trod_slice u28 h1 with ⟨hb, _⟩ | ⟨a, len, cap, elems, rest, n, hn, hb, hxs, _, hlc, _, hel, hall, _⟩
    · cases hb
      exact two [] (.sl0 none 0 2 0) (.node (by simp) (by simp))
    · cases hb
      rw [c30] at hall
      rw [hxs] at hz1
      obtain ⟨g1, g2⟩ := weights_elem u28 hz1
      rw [b30, List.length_map, hel] at g1
      obtain ⟨ks, hks, hq, hr⟩ := stand_sliceQ (w := w) (base := base) TyOk 2 (by decide) Ty.cells cells_len (a := a) hlc (fun i hi => by
        have := hall i hi
        rw [List.getElem?_eq_getElem (by omega)] at this
        obtain ⟨cs', h2, h3⟩ := Option.bind_eq_some_iff.1 this
        obtain ⟨t, ht, ho⟩ := open_tyS n cs' _ h3 (g2 (j := i) (by rw [List.getElem?_map, List.getElem?_eq_getElem (by omega)]; rfl))
        exact ⟨t, cs', h2, ht, ho⟩)
      exact two ks (by rw [rows_map]; exact hr) (.node (by rw [hks]; exact reach_le g1) hq)
  termination_by fuel => fuel
  decreasing_by all_goals omega
set_option maxRecDepth 100000 in
theorem open_tmS : ∀ (fuel : Nat) (cs : List Value) x, DataW.trod enc Tryd.prog w base spare held fuel 29 cs = some x → (x.1.weights Tryd.prog 29).all (· ≤ reachBytes) = true → ∃ t : Tm, Stand w cs t.cells ∧ TmOk t
  | 0, cs, x, h, hz => by simp [DataW.trod] at h
  | fuel + 1, cs, x, h, hz => by
    obtain ⟨xs, n, hn, hxx, hl, hxl, hf⟩ := DataW.trod_struct u39 h
    subst hxx
    simp only [DataW.weights, u39] at hz
    obtain rfl : fuel = n := by omega
    rw [c39] at hl
    obtain ⟨v0, v1, v2, v3, v4, v5, v6, v7, v8, v9, v10, rfl⟩ : ∃ v0 v1 v2 v3 v4 v5 v6 v7 v8 v9 v10, cs = [v0, v1, v2, v3, v4, v5, v6, v7, v8, v9, v10] := by
      match cs, hl with
      | [v0, v1, v2, v3, v4, v5, v6, v7, v8, v9, v10], _ => exact ⟨_, _, _, _, _, _, _, _, _, _, _, rfl⟩
    have h0 := hf 0 (fld 29 0) rfl
    have h1 := hf 1 (fld 29 1) rfl
    have h2 := hf 2 (fld 29 2) rfl
    have h3 := hf 3 (fld 29 3) rfl
    have h4 := hf 4 (fld 29 4) rfl
    have h5 := hf 5 (fld 29 5) rfl
    have h6 := hf 6 (fld 29 6) rfl
    have h7 := hf 7 (fld 29 7) rfl
    have h8 := hf 8 (fld 29 8) rfl
    rw [f39_0.1, f39_0.2, c27] at h0
    rw [f39_1.1, f39_1.2, c9] at h1
    rw [f39_2.1, f39_2.2, c9] at h2
    rw [f39_3.1, f39_3.2, c2] at h3
    rw [f39_4.1, f39_4.2, c30] at h4
    rw [f39_5.1, f39_5.2, c30] at h5
    rw [f39_6.1, f39_6.2, c3] at h6
    rw [f39_7.1, f39_7.2, c3] at h7
    rw [f39_8.1, f39_8.2, c37] at h8
    have hx : ∀ i, i < 9 → i < xs.length := fun i hi => by rw [hxl]; exact hi
    rw [List.getElem?_eq_getElem (hx 0 (by omega))] at h0
    rw [List.getElem?_eq_getElem (hx 1 (by omega))] at h1
    rw [List.getElem?_eq_getElem (hx 2 (by omega))] at h2
    rw [List.getElem?_eq_getElem (hx 3 (by omega))] at h3
    rw [List.getElem?_eq_getElem (hx 4 (by omega))] at h4
    rw [List.getElem?_eq_getElem (hx 5 (by omega))] at h5
    rw [List.getElem?_eq_getElem (hx 6 (by omega))] at h6
    rw [List.getElem?_eq_getElem (hx 7 (by omega))] at h7
    rw [List.getElem?_eq_getElem (hx 8 (by omega))] at h8
    have hz4 := weights_part hz (j := 4) (t := 26) (by rw [← f39_4.1]; rfl) (d := (xs[4]'(hx 4 (by omega))).1) (by rw [List.getElem?_map, List.getElem?_eq_getElem (hx 4 (by omega))]; rfl)
    have hz5 := weights_part hz (j := 5) (t := 26) (by rw [← f39_5.1]; rfl) (d := (xs[5]'(hx 5 (by omega))).1) (by rw [List.getElem?_map, List.getElem?_eq_getElem (hx 5 (by omega))]; rfl)
    have hz8 := weights_part hz (j := 8) (t := 27) (by rw [← f39_8.1]; rfl) (d := (xs[8]'(hx 8 (by omega))).1) (by rw [List.getElem?_map, List.getElem?_eq_getElem (hx 8 (by omega))]; rfl)
    simp only [List.drop_zero, List.take_succ_cons, List.take_zero, List.drop_succ_cons] at h0 h1 h2 h3 h4 h5 h6 h7 h8
    obtain ⟨k, hk, _, _⟩ := DataW.trod_int u27 h0
    cases hk
    obtain ⟨name, hk, _, _⟩ := DataW.trod_string u9 h1
    cases hk
    obtain ⟨arg, hk, _, _⟩ := DataW.trod_string u9 h2
    cases hk
    obtain ⟨num, hk, _, _⟩ := DataW.trod_int u2 h3
    cases hk
    obtain ⟨⟨tk, tks⟩, ⟨_, s4⟩, o4⟩ := open_tyS _ _ _ h4 hz4
    obtain ⟨⟨uk, uks⟩, ⟨_, s5⟩, o5⟩ := open_tyS _ _ _ h5 hz5
    obtain ⟨label, hk, _, _⟩ := DataW.trod_int u3 h6
    cases hk
    obtain ⟨place, hk, _, _⟩ := DataW.trod_int u3 h7
    cases hk
    have q0 := s4 0 _ _ rfl rfl
    have q1 := s4 1 _ _ rfl rfl
    have q2 := s5 0 _ _ rfl rfl
    have q3 := s5 1 _ _ rfl rfl
    have two : ∀ ks : List Tm, RepD w (rgAll w) v10 (.sl 0 11 (Tm.rows ks)) → ks.length * 152 ≤ 140737488355328 → (∀ t ∈ ks, TmOk t) → ∃ t : Tm, Stand w [.int .i8 k, .string name, .string arg, .int .i64 num, v4, v5, v6, v7, .int .i64 label, .int .i64 place, v10] t.cells ∧ TmOk t := fun ks hr hk1 hk2 =>
      ⟨.node k name arg num tk tks uk uks label place ks, ⟨rfl, fun i v y hv hy => by
        match i with
        | 0 => simp [Tm.cells] at hv hy; subst hv; subst hy; exact .int _ _
        | 1 => simp [Tm.cells] at hv hy; subst hv; subst hy; exact .str _
        | 2 => simp [Tm.cells] at hv hy; subst hv; subst hy; exact .str _
        | 3 => simp [Tm.cells] at hv hy; subst hv; subst hy; exact .int _ _
        | 4 => simp [Tm.cells] at hv hy; subst hv; subst hy; exact q0
        | 5 => simp [Tm.cells] at hv hy; subst hv; subst hy; exact q1
        | 6 => simp [Tm.cells] at hv hy; subst hv; subst hy; exact q2
        | 7 => simp [Tm.cells] at hv hy; subst hv; subst hy; exact q3
        | 8 => simp [Tm.cells] at hv hy; subst hv; subst hy; exact .int _ _
        | 9 => simp [Tm.cells] at hv hy; subst hv; subst hy; exact .int _ _
        | 10 => simp [Tm.cells] at hv hy; subst hv; subst hy; exact hr
        | i + 11 => simp at hv⟩, .node o4 o5 hk1 hk2⟩
    rcases DataW.trod_slice u37 h8 with ⟨hb, _⟩ | ⟨a, len, cap, elems, rest, n, hn, hb, hxs, _, hlc, _, hel, hall, _⟩
    · cases hb
      exact two [] (.sl0 none 0 11 0) (by simp) (by simp)
    · cases hb
      rw [c39] at hall
      rw [hxs] at hz8
      obtain ⟨g1, g2⟩ := weights_elem u37 hz8
      rw [b39, List.length_map, hel] at g1
      obtain ⟨ks, hks, hq, hr⟩ := stand_sliceQ (w := w) (base := base) TmOk 11 (by decide) Tm.cells tcells_len (a := a) hlc (fun i hi => by
        have := hall i hi
        rw [List.getElem?_eq_getElem (by omega)] at this
        obtain ⟨cs', h2, h3⟩ := Option.bind_eq_some_iff.1 this
        obtain ⟨t, ht, ho⟩ := open_tmS n cs' _ h3 (g2 (j := i) (by rw [List.getElem?_map, List.getElem?_eq_getElem (by omega)]; rfl))
        exact ⟨t, cs', h2, ht, ho⟩)
      exact two ks (by rw [trows_map]; exact hr) (by rw [hks]; exact reach_le g1) hq
  termination_by fuel => fuel
  decreasing_by all_goals omega
end
end Go.Proofs.YthmbncehoblgpaaDoor.E
