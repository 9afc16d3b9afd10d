/- Texts, merged: Kw5, TyOpen, Glue, TmOpen. No conditions. -/
import Derived.Test.YtmaokphbfjpodaaDoorGenX13
import Derived.Test.YtmaokphbfjpodaaDoorGenX2
import Derived.Deep.Slices
import Derived.WideKeyArgs
import Derived.ChangeArms
import Derived.ChangeOld
import Derived.Below
import Derived.WalkKit
import Derived.ProofKit
import Derived.OpenShut
import Derived.SizedLaws
/- Walks: ParseBlanks. No conditions. -/
set_option linter.unusedVariables false
set_option linter.unusedSimpArgs false
namespace Go.Proofs.YtmaokphbfjpodaaDoor.E
open Go

def errO (s : ByteArray) : DV := match readF s with
  | .ok _ => .nili
  | .error x => faultI x.1 x.2.1 x.2.2
def parsedT (s : ByteArray) : Tm := match readF s with
  | .ok t => t
  | .error _ => tmZ
theorem parseO (s : ByteArray) : ACall Tryd.prog 7 [.c (.d (.str s))] [] (fun o σ => o = .ret (.tup [(parsedT s).val, .c (.d (errO s))]) ∧ σ = []) := by
  have h := parseTerm_call s
  unfold termO at h
  unfold parsedT errO
  cases hr : readF s with
  | ok t => rw [hr] at h; exact h
  | error x => rw [hr] at h; exact h
theorem errO_cases (s : ByteArray) : errO s = .nili ∨ ∃ c a w, errO s = faultI c a w := by
  unfold errO
  cases readF s with
  | ok t => exact .inl rfl
  | error x => exact .inr ⟨_, _, _, rfl⟩
theorem faultO (s : ByteArray) : ACall Tryd.prog 10 [.c (.d (errO s))] [] (fun o σ => o = .ret (.tup [fltV (fltF s).1 (fltF s).2.1 (fltF s).2.2, .c (.d (.bool true))]) ∧ σ = []) := by
  unfold errO fltF
  cases hr : readF s with
  | ok t => exact fault0_call
  | error x => exact fault1_call _ _ _ (read_code hr)
structure PbI (l : List Wd) where
  i : Nat
  s : ByteArray
  hi : i ≤ l.length
  h : s.data.toList ++ spread blL i (l.drop i) = spread blL 0 l
set_option maxRecDepth 10000 in
set_option maxHeartbeats 4000000 in
theorem law_ParseBlanks (x : ByteArray) (cut : Int) (hc1 : -9223372036854775808 ≤ cut) (hc2 : cut ≤ 9223372036854775807) : ACall Tryd.prog 3 [.c (.d (.str x)), .c (.d (.int .i64 cut))] [] (fun o σ => o = .ret (.c (.d (.bool true))) ∧ σ = []) := by
  have W := wakes04_call
  by_cases hsz : x.size > 4096
  · refine ACall.body tab_ok (ρ := 0) (N := 169) Tryd.func3 rfl rfl rfl rfl rfl ?_
    repeat' first | refine AW.seq ?_ | refine AW.block ?_ | (refine (_root_.id : AW _ _ _ (.region 13 _ true) _ _ → _) ?_; refine AW.draw (id := 13) tab_ok mixed [0, 1, 2, 3, 4, 5, 6, 7, 8, 9, 10] (by kernel_rfl) ?_; conv => whnf) | (refine (_root_.id : AW _ _ _ (.region 16 _ true) _ _ → _) ?_; refine AW.draw (id := 16) tab_ok mixed [0, 1, 2, 3, 4, 5, 6, 7, 8, 9, 10, 11, 12, 13, 14] (by kernel_rfl) ?_; conv => whnf) | ((first | refine AW.region tab_ok ?_ | refine AW.cond ?_ | refine AW.skip ?_ | refine AW.ret ?_ | refine AW.exit ?_); conv => whnf) | (refine (W).mono ?_; rintro _ _ ⟨rfl, rfl⟩; conv => whnf) | ((first | refine And.intro (@rfl Val _) ?_ | refine And.intro (by decide) ?_ | refine cs (fun _ => ?_) (fun _ => ?_)) <;> conv => whnf)
    all_goals first | exact ⟨rfl, rfl⟩ | (exfalso; simp_all; omega)
  · have A := all_call x
    cases hs : scanF x with
    | error y =>
      obtain ⟨e, a, w⟩ := y
      have A : ACall Tryd.prog 6 [.c (.d (.str x))] [] (fun o σ => o = .ret (.tup [.c (.d (.sl 0 4 [])), .c (.d (faultI e a w))]) ∧ σ = []) := A.mono fun o σ h => by unfold allR at h; rw [hs] at h; exact h
      have P := parseO x
      have hr : errO x = faultI e a w := by unfold errO readF; rw [hs]
      rw [hr] at P
      generalize parsedT x = t at P
      obtain ⟨k, nm, ag, nu, tk, tks, uk, uks, lb, pl, ks⟩ := t
      refine ACall.body tab_ok (ρ := 0) (N := 169) Tryd.func3 rfl rfl rfl rfl rfl ?_
      repeat' first | refine AW.seq ?_ | refine AW.block ?_ | (refine (_root_.id : AW _ _ _ (.region 13 _ true) _ _ → _) ?_; refine AW.draw (id := 13) tab_ok mixed [0, 1, 2, 3, 4, 5, 6, 7, 8, 9, 10] (by kernel_rfl) ?_; conv => whnf) | (refine (_root_.id : AW _ _ _ (.region 16 _ true) _ _ → _) ?_; refine AW.draw (id := 16) tab_ok mixed [0, 1, 2, 3, 4, 5, 6, 7, 8, 9, 10, 11, 12, 13, 14] (by kernel_rfl) ?_; conv => whnf) | ((first | refine AW.region tab_ok ?_ | refine AW.cond ?_ | refine AW.skip ?_ | refine AW.ret ?_ | refine AW.exit ?_); conv => whnf) | ((first | refine (A).mono ?_ | refine (P).mono ?_ | refine (W).mono ?_); rintro _ _ ⟨rfl, rfl⟩; conv => whnf) | ((first | refine And.intro (@rfl Val _) ?_ | refine And.intro (by decide) ?_ | refine cs (fun _ => ?_) (fun _ => ?_)) <;> conv => whnf)
      all_goals first | exact ⟨rfl, rfl⟩ | (exfalso; simp_all; done) | (exfalso; simp_all; omega)
    | ok l =>
      have A : ACall Tryd.prog 6 [.c (.d (.str x))] [] (fun o σ => o = .ret (.tup [.c (.d (.sl 0 4 (wrows l))), .c (.d .nili)]) ∧ σ = []) := A.mono fun o σ h => by unfold allR at h; rw [hs] at h; exact h
      obtain ⟨z1, z2, z3⟩ := spread_size hs (by omega)
      refine ACall.body tab_ok (ρ := 0) (N := 169) Tryd.func3 rfl rfl rfl rfl rfl ?_
      repeat' first | refine AW.seq ?_ | refine AW.block ?_ | (refine (_root_.id : AW _ _ _ (.region 13 _ true) _ _ → _) ?_; refine AW.draw (id := 13) tab_ok mixed [0, 1, 2, 3, 4, 5, 6, 7, 8, 9, 10] (by kernel_rfl) ?_; conv => whnf) | (refine (_root_.id : AW _ _ _ (.region 16 _ true) _ _ → _) ?_; refine AW.draw (id := 16) tab_ok mixed [0, 1, 2, 3, 4, 5, 6, 7, 8, 9, 10, 11, 12, 13, 14] (by kernel_rfl) ?_; conv => whnf) | ((first | refine AW.region tab_ok ?_ | refine AW.cond ?_ | refine AW.skip ?_ | refine AW.ret ?_ | refine AW.exit ?_); conv => whnf) | (refine (A).mono ?_; rintro _ _ ⟨rfl, rfl⟩; conv => whnf) | ((first | refine And.intro (@rfl Val _) ?_ | refine And.intro (by decide) ?_ | refine cs (fun _ => ?_) (fun _ => ?_)) <;> conv => whnf)
      · exfalso
        rename_i hz
        have := of_decide_eq_true hz
        omega
      · exfalso
        rename_i hz
        have : (wrows l).length = 0 := by simpa using hz
        rw [wrows_len] at this
        omega
      refine AW.loop (ι := PbI l) (fun y => ⟨169, [(10, .c (.d (.int .i64 y.i))), (9, .c (.d (.str y.s))), (5, .c (.d (.sl 0 4 (wrows l)))), (1, .c (.d (.int .i64 cut))), (0, .c (.d (.str x)))], [], []⟩)
        (fun y => l.length - y.i) ⟨0, ⟨#[]⟩, Nat.zero_le _, rfl⟩ 0 (fun _ => rfl) (Nat.le_of_ble_eq_true rfl) ⟨⟨rfl, rfl, rfl, rfl, rfl, trivial⟩, rfl, rfl, ⟨[], rfl⟩, rfl⟩ (fun y => ?_)
      obtain ⟨i, s, hi, hsp⟩ := y
      dsimp only
      repeat' first | refine AW.seq ?_ | refine AW.block ?_ | (refine (_root_.id : AW _ _ _ (.region 13 _ true) _ _ → _) ?_; refine AW.draw (id := 13) tab_ok mixed [0, 1, 2, 3, 4, 5, 6, 7, 8, 9, 10] (by kernel_rfl) ?_; conv => whnf) | (refine (_root_.id : AW _ _ _ (.region 16 _ true) _ _ → _) ?_; refine AW.draw (id := 16) tab_ok mixed [0, 1, 2, 3, 4, 5, 6, 7, 8, 9, 10, 11, 12, 13, 14] (by kernel_rfl) ?_; conv => whnf) | ((first | refine AW.region tab_ok ?_ | refine AW.cond ?_ | refine AW.skip ?_ | refine AW.ret ?_ | refine AW.exit ?_); conv => whnf) | ((first | refine And.intro (@rfl Val _) ?_ | refine And.intro (by decide) ?_ | refine cs (fun _ => ?_) (fun _ => ?_)) <;> conv => whnf)
      · rename_i h2
        have hlt : i < l.length := by have := of_decide_eq_true h2; rw [wrows_len] at this; omega
        obtain ⟨w, hw⟩ : ∃ w, l[i]? = some w := ⟨_, List.getElem?_eq_getElem hlt⟩
        have hrow : (wrows l)[i]? = some w.cells := by simp [wrows, hw]
        refine ⟨⟨by omega, by rw [wrows_len]; omega⟩, fun row hr => ?_⟩
        obtain rfl := Option.some.inj (hrow.symm.trans (by simpa using hr))
        have hdr : l.drop i = w :: l.drop (i + 1) := by rw [List.drop_eq_getElem_cons hlt, ← (List.getElem?_eq_some_iff.1 hw).2]
        obtain ⟨wk, wt, wn, wp⟩ := w
        have B := blanks_call i
        have hb1 : s.size + wt.size + (blB i).size ≤ 65536 := by
          have e1 : s.data.toList.length = s.size := rfl
          have e2 : wt.data.toList.length = wt.size := rfl
          have e3 : (blL i).length = (blB i).size := rfl
          have := congrArg List.length hsp
          rw [hdr] at this
          simp only [spread, List.length_append] at this
          omega
        have hb2 : (s ++ wt).size = s.size + wt.size := ByteArray.size_append ..
        conv => whnf
        repeat' first | ((refine And.intro (show s.size + wt.size ≤ 9223372036854775807 by omega) ?_; conv => whnf)) | ((refine And.intro (show (s ++ wt).size + (blB i).size ≤ 9223372036854775807 by omega) ?_; conv => whnf)) | refine AW.seq ?_ | refine AW.block ?_ | (refine (_root_.id : AW _ _ _ (.region 13 _ true) _ _ → _) ?_; refine AW.draw (id := 13) tab_ok mixed [0, 1, 2, 3, 4, 5, 6, 7, 8, 9, 10] (by kernel_rfl) ?_; conv => whnf) | (refine (_root_.id : AW _ _ _ (.region 16 _ true) _ _ → _) ?_; refine AW.draw (id := 16) tab_ok mixed [0, 1, 2, 3, 4, 5, 6, 7, 8, 9, 10, 11, 12, 13, 14] (by kernel_rfl) ?_; conv => whnf) | ((first | refine AW.region tab_ok ?_ | refine AW.cond ?_ | refine AW.skip ?_ | refine AW.ret ?_ | refine AW.exit ?_); conv => whnf) | (refine (B).mono ?_; rintro _ _ ⟨rfl, rfl⟩; conv => whnf) | ((first | refine And.intro (@rfl Val _) ?_ | refine And.intro (by decide) ?_ | refine cs (fun _ => ?_) (fun _ => ?_)) <;> conv => whnf)
        rw [wrap1 (by omega)]
        refine ⟨⟨i + 1, s ++ wt ++ blB i, hlt, ?_⟩, ⟨⟨rfl, rfl, rfl, rfl, rfl, trivial⟩, rfl, rfl, ⟨[], rfl⟩, rfl⟩, show l.length - (i + 1) < l.length - i by omega⟩
        rw [← hsp, hdr]
        simp only [spread, ByteArray.data_append, Array.toList_append, List.append_assoc]
        rfl
      · rename_i h2
        have hge : i = l.length := by have := of_decide_eq_false h2; rw [wrows_len] at this; omega
        have hs2 : s.data.toList = spread blL 0 l := by
          rw [hge, List.drop_length] at hsp
          simpa [spread] using hsp
        have hz2 : s.size ≤ 65536 := by
          have : s.data.toList.length = s.size := rfl
          rw [← this, hs2]; exact z1
        obtain ⟨l', hl', hsame⟩ := blanks_scan blL_ok hs hs2 hz2
        have P := parseO x
        have Q := parseO s
        have F := faultO x
        have hrl := read_rl hs hl' hsame
        have hk : ∃ k : Nat, k < l.length ∧ Int.tmod (IntKind.i64.wrap (Int.tmod cut (l.length : Int) + (l.length : Int))) (l.length : Int) = (k : Int) := by
          have hp : (0 : Int) < (l.length : Int) := by omega
          have h1 := Int.tmod_lt_of_pos cut hp
          have h0 := Int.lt_tmod_of_pos cut hp
          rw [wrap64 (by omega) (by omega), Int.tmod_eq_emod_of_nonneg (by omega)]
          have h3 := Int.emod_nonneg (Int.tmod cut (l.length : Int) + (l.length : Int)) (by omega : (l.length : Int) ≠ 0)
          have h4 := Int.emod_lt_of_pos (Int.tmod cut (l.length : Int) + (l.length : Int)) hp
          exact ⟨_, by omega, (Int.toNat_of_nonneg h3).symm⟩
        obtain ⟨k, hk, hke⟩ := hk
        obtain ⟨w, m, hw, hm, hpl, hcs⟩ := cut_scan hs hk
        have hke2 : (IntKind.i64.wrap (cut.tmod ((wrows l).length : Int) + ((wrows l).length : Int))).tmod ((wrows l).length : Int) = (k : Int) := by rw [wrows_len]; exact hke
        have hrowk : (wrows l)[k]? = some w.cells := by simp [wrows, hw]
        have H := parseO (x.extract 0 m)
        generalize parsedT (x.extract 0 m) = tH at H
        obtain ⟨hk0, hnm, hag, hnu, htk, htks, huk, huks, hlb, hpl0, hks⟩ := tH
        have G := faultO (x.extract 0 m)
        have hfine := cut_fine hs hk hcs
        rcases hrl with ⟨t, u, e1, e2, hc⟩ | ⟨⟨y, e1⟩, ⟨y', e2⟩⟩
        · have R := tSame_call t u
          rw [sameT_cl (read_good e1).1 hc.symm] at R
          have q1 : errO x = .nili := by unfold errO; rw [e1]
          have q2 : errO s = .nili := by unfold errO; rw [e2]
          have q3 : parsedT x = t := by unfold parsedT; rw [e1]
          have q4 : parsedT s = u := by unfold parsedT; rw [e2]
          rw [q1, q3] at P
          rw [q1] at F
          rw [q2, q4] at Q
          obtain ⟨tk0, tnm, tag, tnu, ttk, ttks, tuk, tuks, tlb, tpl, tks⟩ := t
          obtain ⟨uk0, unm, uag, unu, utk, utks, uuk, uuks, ulb, upl, uks⟩ := u
          repeat' first | ((refine And.intro (show ((wrows l).length : Int) ≠ 0 by rw [wrows_len]; omega) ?_; conv => whnf)) | refine AW.seq ?_ | refine AW.block ?_ | (refine (_root_.id : AW _ _ _ (.region 13 _ true) _ _ → _) ?_; refine AW.draw (id := 13) tab_ok mixed [0, 1, 2, 3, 4, 5, 6, 7, 8, 9, 10] (by kernel_rfl) ?_; conv => whnf) | (refine (_root_.id : AW _ _ _ (.region 16 _ true) _ _ → _) ?_; refine AW.draw (id := 16) tab_ok mixed [0, 1, 2, 3, 4, 5, 6, 7, 8, 9, 10, 11, 12, 13, 14] (by kernel_rfl) ?_; conv => whnf) | ((first | refine AW.region tab_ok ?_ | refine AW.cond ?_ | refine AW.skip ?_ | refine AW.ret ?_ | refine AW.exit ?_); conv => whnf) | ((first | refine (P).mono ?_ | refine (Q).mono ?_ | refine (F).mono ?_ | refine (R).mono ?_); rintro _ _ ⟨rfl, rfl⟩; conv => whnf) | ((first | refine And.intro (@rfl Val _) ?_ | refine And.intro (by decide) ?_ | refine cs (fun _ => ?_) (fun _ => ?_)) <;> conv => whnf)
          rw [hke2]
          refine ⟨⟨by omega, by rw [wrows_len]; omega⟩, fun row hr => ?_⟩
          obtain rfl := Option.some.inj (hrowk.symm.trans (by simpa using hr))
          obtain ⟨wk, wt, wn, wp⟩ := w
          simp only at hpl
          subst hpl
          rcases errO_cases (x.extract 0 m) with hE | ⟨fc, fa, fw, hE⟩ <;> rw [hE] at H G
          all_goals conv => whnf
          all_goals
            repeat' first | ((refine And.intro (show (0 : Int) ≤ (m : Int) ∧ (m : Int) ≤ (x.size : Int) from ⟨by omega, by omega⟩) ?_; conv => whnf)) | refine AW.seq ?_ | refine AW.block ?_ | (refine (_root_.id : AW _ _ _ (.region 13 _ true) _ _ → _) ?_; refine AW.draw (id := 13) tab_ok mixed [0, 1, 2, 3, 4, 5, 6, 7, 8, 9, 10] (by kernel_rfl) ?_; conv => whnf) | (refine (_root_.id : AW _ _ _ (.region 16 _ true) _ _ → _) ?_; refine AW.draw (id := 16) tab_ok mixed [0, 1, 2, 3, 4, 5, 6, 7, 8, 9, 10, 11, 12, 13, 14] (by kernel_rfl) ?_; conv => whnf) | ((first | refine AW.region tab_ok ?_ | refine AW.cond ?_ | refine AW.skip ?_ | refine AW.ret ?_ | refine AW.exit ?_); conv => whnf) | ((first | refine (H).mono ?_ | refine (G).mono ?_ | refine (W).mono ?_); rintro _ _ ⟨rfl, rfl⟩; conv => whnf) | ((first | refine And.intro (@rfl Val _) ?_ | refine And.intro (by decide) ?_ | refine cs (fun _ => ?_) (fun _ => ?_)) <;> conv => whnf)
          all_goals first
            | exact ⟨rfl, rfl⟩
            | (exfalso
               clear P Q F H G W A hsp
               simp only [cond_true, cond_false, beq_iff_eq, bne_iff_ne, ne_eq, beq_eq_false_iff_ne, bne_eq_false_iff_eq, decide_eq_true_eq, decide_eq_false_iff_not] at *
               rcases hfine with hf | hf | ⟨hf, hg⟩ | ⟨hf, hg, hh⟩ <;> simp_all [s0]
               done)
           
        · have q1 : errO x = faultI y.1 y.2.1 y.2.2 := by unfold errO; rw [e1]
          have q2 : errO s = faultI y'.1 y'.2.1 y'.2.2 := by unfold errO; rw [e2]
          rw [q1] at P F
          rw [q2] at Q
          generalize parsedT x = t at P
          generalize parsedT s = u at Q
          obtain ⟨tk0, tnm, tag, tnu, ttk, ttks, tuk, tuks, tlb, tpl, tks⟩ := t
          obtain ⟨uk0, unm, uag, unu, utk, utks, uuk, uuks, ulb, upl, uks⟩ := u
          repeat' first | ((refine And.intro (show ((wrows l).length : Int) ≠ 0 by rw [wrows_len]; omega) ?_; conv => whnf)) | refine AW.seq ?_ | refine AW.block ?_ | (refine (_root_.id : AW _ _ _ (.region 13 _ true) _ _ → _) ?_; refine AW.draw (id := 13) tab_ok mixed [0, 1, 2, 3, 4, 5, 6, 7, 8, 9, 10] (by kernel_rfl) ?_; conv => whnf) | (refine (_root_.id : AW _ _ _ (.region 16 _ true) _ _ → _) ?_; refine AW.draw (id := 16) tab_ok mixed [0, 1, 2, 3, 4, 5, 6, 7, 8, 9, 10, 11, 12, 13, 14] (by kernel_rfl) ?_; conv => whnf) | ((first | refine AW.region tab_ok ?_ | refine AW.cond ?_ | refine AW.skip ?_ | refine AW.ret ?_ | refine AW.exit ?_); conv => whnf) | ((first | refine (P).mono ?_ | refine (Q).mono ?_ | refine (F).mono ?_); rintro _ _ ⟨rfl, rfl⟩; conv => whnf) | ((first | refine And.intro (@rfl Val _) ?_ | refine And.intro (by decide) ?_ | refine cs (fun _ => ?_) (fun _ => ?_)) <;> conv => whnf)
          rw [hke2]
          refine ⟨⟨by omega, by rw [wrows_len]; omega⟩, fun row hr => ?_⟩
          obtain rfl := Option.some.inj (hrowk.symm.trans (by simpa using hr))
          obtain ⟨wk, wt, wn, wp⟩ := w
          simp only at hpl
          subst hpl
          rcases errO_cases (x.extract 0 m) with hE | ⟨fc, fa, fw, hE⟩ <;> rw [hE] at H G
          all_goals conv => whnf
          all_goals
            repeat' first | ((refine And.intro (show (0 : Int) ≤ (m : Int) ∧ (m : Int) ≤ (x.size : Int) from ⟨by omega, by omega⟩) ?_; conv => whnf)) | refine AW.seq ?_ | refine AW.block ?_ | (refine (_root_.id : AW _ _ _ (.region 13 _ true) _ _ → _) ?_; refine AW.draw (id := 13) tab_ok mixed [0, 1, 2, 3, 4, 5, 6, 7, 8, 9, 10] (by kernel_rfl) ?_; conv => whnf) | (refine (_root_.id : AW _ _ _ (.region 16 _ true) _ _ → _) ?_; refine AW.draw (id := 16) tab_ok mixed [0, 1, 2, 3, 4, 5, 6, 7, 8, 9, 10, 11, 12, 13, 14] (by kernel_rfl) ?_; conv => whnf) | ((first | refine AW.region tab_ok ?_ | refine AW.cond ?_ | refine AW.skip ?_ | refine AW.ret ?_ | refine AW.exit ?_); conv => whnf) | ((first | refine (H).mono ?_ | refine (G).mono ?_ | refine (W).mono ?_); rintro _ _ ⟨rfl, rfl⟩; conv => whnf) | ((first | refine And.intro (@rfl Val _) ?_ | refine And.intro (by decide) ?_ | refine cs (fun _ => ?_) (fun _ => ?_)) <;> conv => whnf)
          all_goals first
            | exact ⟨rfl, rfl⟩
            | (exfalso
               clear P Q F H G W A hsp
               simp only [cond_true, cond_false, beq_iff_eq, bne_iff_ne, ne_eq, beq_eq_false_iff_ne, bne_eq_false_iff_eq, decide_eq_true_eq, decide_eq_false_iff_not] at *
               rcases hfine with hf | hf | ⟨hf, hg⟩ | ⟨hf, hg, hh⟩ <;> simp_all [s0]
               done)
           
end Go.Proofs.YtmaokphbfjpodaaDoor.E

/- From a row's reading of an argument to a tree. No conditions. -/
set_option linter.unusedVariables false
set_option linter.unusedSimpArgs false
namespace Go.Proofs.YtmaokphbfjpodaaDoor.E
open Go Go.RowKit

/-- All that was there is one region. -/
def rgAll (w : World) : Nat → Option Nat := fun b => if b < w.heap.size then some 0 else none
def czAll (w : World) : Cz := ⟨[], rgAll w⟩
theorem inv_all (w : World) (hg : GlobOk w (czAll w) := by intro a v h; simp [globs] at h) : Inv w (czAll w) [] :=
  ⟨rfl, fun i o e h => by simp at h, fun i o e b h => by simp at h, fun i j o p e f b h => by simp at h, fun b r h => (by
    simp only [czAll, rgAll] at h
    split at h
    · assumption
    · cases h), hg⟩

section
variable {H : Type} {enc : TypeId × Value → H} {w : World} {base : Nat} {spare : Nat → Bool} {held : Bool}

end

end Go.Proofs.YtmaokphbfjpodaaDoor.E

/- From a law's walk to its row: parts for all rows. No conditions. -/
namespace Go.Proofs.YtmaokphbfjpodaaDoor.E
open Go Go.RowKit

theorem rep2 {w : World} {C : Cz} {u v : Value} {x y : Val} (h : RepV w C u x) (g : RepV w C v y) : RepVs w C #[u, v].toList [x, y] := .cons h (.cons g ⟨rfl, fun i v x h => by simp at h⟩)
/-- A law that is true: as a call. -/
theorem law_true {P : Program} {f : FuncId} {args : List Val} (h : ACall P f args [] (fun o σ => o = .ret (.c (.d (.bool true))) ∧ σ = [])) {w : World} {vs : Array Value} (hv : RepVs w (czAll w) vs.toList args) (hg : GlobOk w (czAll w) := by intro a v h; simp [globs] at h) :
    Calls P f vs w fun e w' => e = .returned (.bool true) ∧ Below w.heap.size w w' :=
  (h.out w (czAll w) vs (inv_all w hg) hv).mono fun e w' ⟨o, σ', C', ⟨ho, hs⟩, hI, hX, hO⟩ => by
    subst ho; subst hs
    obtain ⟨v, rfl, hr⟩ := hO
    have := bool_of hr
    subst this
    exact ⟨rfl, hX.os, hX.tape, hX.output, hX.size, fun k hk => hX.frame k hk (fun ⟨i, o, e, h, _⟩ => by simp at h) (fun r hr => by simp only [czAll, rgAll] at hr; rw [if_pos hk] at hr; cases hr; rfl)⟩
end Go.Proofs.YtmaokphbfjpodaaDoor.E

/- From a row's reading of a term to a tree. No conditions. -/
set_option linter.unusedVariables false
set_option linter.unusedSimpArgs false
namespace Go.Proofs.YtmaokphbfjpodaaDoor.E
open Go Go.RowKit

theorem u9 : Tryd.prog.underlying 9 = some .string := by kernel_rfl
theorem u2 : Tryd.prog.underlying 2 = some (.int .i64) := by kernel_rfl
theorem u3 : Tryd.prog.underlying 3 = some (.int .i64) := by kernel_rfl
theorem c2 : Tryd.prog.cellsOf 2 = 1 := by kernel_rfl
theorem c3 : Tryd.prog.cellsOf 3 = 1 := by kernel_rfl
section
variable {H : Type} {enc : TypeId × Value → H} {w : World} {base : Nat} {spare : Nat → Bool} {held : Bool}
end
end Go.Proofs.YtmaokphbfjpodaaDoor.E
