/- Texts, merged: Bk7, Bk8, Kw2, TyOpen, Glue, TmOpen, OpenR. No conditions. -/
import Derived.Test.YtmaokphbfjpodaaGreatDoorGenX15
import Derived.Test.YtmaokphbfjpodaaGreatDoorGenX9
import Derived.Test.YtmaokphbfjpodaaGreatDoorGenX4
import Derived.Test.YtmaokphbfjpodaaGreatDoorGenX2
import Derived.Deep.Slices
import Derived.WideKeyArgs
import Derived.ChangeArms
import Derived.ChangeOld
import Derived.Below
import Derived.WalkKit
import Derived.ProofKit
import Derived.OpenShut
import Derived.SizedLaws
import Derived.Test.YtmaokphbfjpodaaGreatDoorGenX12
/- Only what counts of a term is looked at, and told; what is told is read as it was. No conditions. -/
set_option linter.unusedVariables false
set_option linter.unusedSimpArgs false
namespace Go.Proofs.YtmaokphbfjpodaaGreatDoor.E
open Go

theorem clL_len : ∀ l : List Tm, (clL l).length = l.length
  | [] => rfl
  | _ :: l => by simp [clL, clL_len l]
mutual
theorem tmN_cl : ∀ t : Tm, tmN (cl t) = tmN t
  | .node k name arg num tk tks uk uks label place ks => by
    have h := tmNL_cl ks
    simp only [cl, tmN, h]
    cases typeK k <;> cases toK k <;> rfl
theorem tmNL_cl : ∀ l : List Tm, tmNL (clL l) = tmNL l
  | [] => rfl
  | t :: l => by simp only [clL, tmNL, tmN_cl t, tmNL_cl l]
end
mutual
theorem tmD_cl : ∀ (t : Tm) (m : Nat), tmD (cl t) m = tmD t m
  | .node k name arg num tk tks uk uks label place ks, m => by
    have h := tmDL_cl ks
    simp only [cl, tmD, h]
    cases typeK k <;> cases toK k <;> rfl
theorem tmDL_cl : ∀ (l : List Tm) (m : Nat), tmDL (clL l) m = tmDL l m
  | [], _ => rfl
  | t :: l, m => by simp only [clL, tmDL, tmD_cl t, tmDL_cl l]
end
mutual
theorem tmright_cl : ∀ t : Tm, tmright (cl t) = tmright t
  | .node k name arg num tk tks uk uks label place ks => by
    have h := tmrights_cl ks
    simp only [cl, tmright, ownRight, h, clL_len]
    by_cases h15 : k = 15
    · subst h15; rfl
    · by_cases h17 : k = 17
      · subst h17; rfl
      · simp only [h15, h17, decide_false, Bool.or_false]
        cases typeK k <;> cases toK k <;> cases nameK k <;> cases argK k <;> rfl
theorem tmrights_cl : ∀ l : List Tm, tmrights (clL l) = tmrights l
  | [] => rfl
  | t :: l => by simp only [clL, tmrights, tmright_cl t, tmrights_cl l]
end
theorem tmcheck_cl (t : Tm) : tmcheck (cl t) = tmcheck t := by
  unfold tmcheck
  rw [tmN_cl, tmD_cl, tmright_cl]
theorem tmDepth_cl (t : Tm) : tmDepth (cl t) = tmDepth t := by
  unfold tmDepth
  rw [tmN_cl, tmD_cl]
theorem tmsame_self (t : Tm) : tmright t = true → tmsame t t = true := by
  induction t using Tm.ind with
  | _ k name arg num tk tks uk uks label place ks ih =>
  intro h
  obtain ⟨o1, o2⟩ := tmright_own h
  have s1 : tmsames ks ks = true := (tmsames_all ks ks rfl).2 fun j x y hx hy => by
    rw [hx] at hy; cases hy
    exact ih x (List.mem_of_getElem? hx) (tmright_kid h (List.mem_of_getElem? hx))
  simp only [tmsame, ownSame, s1]
  cases h1 : typeK k <;> cases h2 : toK k <;> simp_all [sameS_self]
mutual
theorem tmsame_clL : ∀ (a b : Tm), tmsame (cl a) b = tmsame a b
  | .node k name arg num tk tks uk uks label place ks, .node k' name' arg' num' tk' tks' uk' uks' label' place' ks' => by
    have h := tmsames_clL ks ks'
    simp only [cl, tmsame, ownSame, h]
    by_cases h1 : k = 1
    · subst h1; rfl
    · by_cases h15 : k = 15
      · subst h15; rfl
      · by_cases h17 : k = 17
        · subst h17; rfl
        · simp only [h1, h15, h17, decide_false, Bool.or_false]
          cases typeK k <;> cases toK k <;> cases nameK k <;> cases argK k <;> rfl
theorem tmsames_clL : ∀ (l l' : List Tm), tmsames (clL l) l' = tmsames l l'
  | [], _ => rfl
  | _ :: _, [] => rfl
  | a :: l, b :: l' => by simp only [clL, tmsames, tmsame_clL a b, tmsames_clL l l']
end
mutual
theorem tmsame_clR : ∀ (a b : Tm), tmsame a (cl b) = tmsame a b
  | .node k name arg num tk tks uk uks label place ks, .node k' name' arg' num' tk' tks' uk' uks' label' place' ks' => by
    have h := tmsames_clR ks ks'
    simp only [cl, tmsame, ownSame, h]
    by_cases e : k = k'
    · subst e
      by_cases h1 : k = 1
      · subst h1; rfl
      · by_cases h15 : k = 15
        · subst h15; rfl
        · by_cases h17 : k = 17
          · subst h17; rfl
          · simp only [h1, h15, h17, decide_false, Bool.or_false]
            cases typeK k <;> cases toK k <;> cases nameK k <;> cases argK k <;> rfl
    · simp [e]
theorem tmsames_clR : ∀ (l l' : List Tm), tmsames l (clL l') = tmsames l l'
  | [], _ => rfl
  | _ :: _, [] => rfl
  | a :: l, b :: l' => by simp only [clL, tmsames, tmsame_clR a b, tmsames_clR l l']
end
/-- Terms of which the same counts are the same. -/
theorem sameT_cl {a b : Tm} (h : tmcheck a = 0) (e : cl b = cl a) : sameT a b = true := by
  have hb : tmcheck b = 0 := by rw [← tmcheck_cl, e, tmcheck_cl, h]
  have hs : tmsame a b = true := by rw [← tmsame_clL, ← tmsame_clR, e, tmsame_clL, tmsame_clR]; exact tmsame_self a (tmcheck_ok h).2
  unfold sameT
  rw [h, hb, hs]
  rfl
/-- What is told is read as it was, but for what does not count. -/
theorem read_back {t : Tm} {s : ByteArray} (hn : tmInR t) (h : toldF t = (s, 0)) : s = bw (joinW (tmA (-1) t)) ∧ ∃ u, readF s = .ok u ∧ cl u = cl t := by
  unfold toldF at h
  split at h
  · rename_i hc
    split at h
    · (have := congrArg Prod.snd h; simp at this)
    · rename_i hb
      split at h
      · (have := congrArg Prod.snd h; simp at this)
      · rename_i hlen
        have hb : tmBad t = false := by simpa using hb
        have hr := (tmcheck_ok hc).2
        obtain rfl : bw (joinW (tmA (-1) t)) = s := congrArg Prod.fst h
        refine ⟨rfl, ?_⟩
        have htx : Tx (joinW (tmA (-1) t)) (tmAT (-1) t) := by
          have := (pw_A (tm_pw t hr hn hb) (-1)).tx [] [] sep_nil .nil
          simpa using this
        have hsz : (bw (joinW (tmA (-1) t))).size = (joinW (tmA (-1) t)).length := by simp [bw_size]
        obtain ⟨ws, e1, e2⟩ := tx_scan htx ((bw (joinW (tmA (-1) t))).size + 1) 0 (by omega)
        have hscan : scanF (bw (joinW (tmA (-1) t))) = .ok (ws ++ [⟨0, s0, 0, (bw (joinW (tmA (-1) t))).size⟩]) := by
          unfold scanF
          rw [if_neg (by rw [hsz]; omega)]
          rw [show (bw (joinW (tmA (-1) t))).data.toList = joinW (tmA (-1) t) from rfl, e1]
        obtain ⟨u, j, r1, r2, r3⟩ := words_rd (l := ws ++ [⟨0, s0, 0, (bw (joinW (tmA (-1) t))).size⟩]) (e := ⟨0, s0, 0⟩) hr hn hb (by
          show ((ws ++ [_]).drop 0).map Wd.tk = _
          rw [List.drop_zero, List.map_append, e2]; rfl) rfl
        refine ⟨u, ?_, r2⟩
        have hN : tmN u = tmN t := by rw [← tmN_cl u, r2, tmN_cl]
        have hD : tmDepth u = tmDepth t := by rw [← tmDepth_cl u, r2, tmDepth_cl]
        have hlim : ¬ tmN t > 8192 ∧ ¬ tmDepth t > 200 := by
          rw [tmcheck_eq] at hc
          constructor
          · intro q; rw [if_pos q] at hc; cases hc
          · intro q
            by_cases q2 : tmN t > 8192
            · rw [if_pos q2] at hc; cases hc
            · rw [if_neg q2, if_pos q] at hc; cases hc
        obtain ⟨w, w1, w2, _, _⟩ := toksW_cons r3
        have hw : wordsP (ws ++ [⟨0, s0, 0, (bw (joinW (tmA (-1) t))).size⟩]) = .ok u j := by
          rw [wordsP, r1, bindP_ok, hN, hD, if_neg hlim.1, if_neg hlim.2]
        unfold readF
        rw [hscan]
        simp only
        rw [hw]
        simp only
        rw [w1]
        simp only
        rw [if_pos (show w.kind = 0 from congrArg Tk.kind w2)]
  · rename_i hc
    exact absurd (congrArg Prod.snd h) hc
end Go.Proofs.YtmaokphbfjpodaaGreatDoor.E

/- What is told has no blank at its ends, and no two side by side. No conditions. -/
set_option linter.unusedVariables false
set_option linter.unusedSimpArgs false
namespace Go.Proofs.YtmaokphbfjpodaaGreatDoor.E
open Go

theorem told_err {t : Tm} {s : ByteArray} {e : Int} (h : toldF t = (s, e)) (he : e ≠ 0) : s = ⟨#[]⟩ := by
  unfold toldF at h
  split at h
  · split at h
    · cases h; rfl
    · split at h
      · cases h; rfl
      · cases h; exact absurd rfl he
  · cases h; rfl
theorem told_ok {t : Tm} {s : ByteArray} (h : toldF t = (s, 0)) : tmcheck t = 0 := by
  unfold toldF at h
  split at h
  · assumption
  · rename_i hc; exact absurd (congrArg Prod.snd h) hc
theorem told_size {t : Tm} {s : ByteArray} (h : toldF t = (s, 0)) : s.size ≤ 65536 := by
  unfold toldF at h
  split at h
  · split at h
    · cases h
    · split at h
      · cases h
      · rename_i hl
        cases h
        rw [bw_size]; omega
  · rename_i hc; exact absurd (congrArg Prod.snd h) hc
theorem tmA_ne (t : Tm) (hr : tmright t = true) (hn : tmInR t) (hb : tmBad t = false) : tmA (-1) t ≠ [] := by
  intro h
  have p := pw_A (tm_pw t hr hn hb) (-1)
  rw [h] at p
  have key : ∀ L, PW [] L → L = [] := fun L p => by cases p; rfl
  have : tmAT (-1) t = [] := key _ p
  obtain ⟨u, j, _, _, hj⟩ := words_rd (l := [⟨0, s0, 0, 0⟩]) (t := t) (e := ⟨0, s0, 0⟩) hr hn hb (by rw [this]; rfl) rfl
  obtain ⟨t', j', q1, q2, q3, q4⟩ := (tm_rd [⟨0, s0, 0, 0⟩] t hr hn hb).rm 2 0 [⟨0, s0, 0⟩] (by rw [this]; rfl) (by decide) (fun s hs => by rw [hdT_cons]; simp)
  have := toksW_lt q4
  simp at this
  omega
theorem told_pt {t : Tm} {s : ByteArray} (hn : tmInR t) (h : toldF t = (s, 0)) : Pt s.data.toList := by
  have h0 := (read_back hn h).1
  unfold toldF at h
  split at h
  · rename_i hc
    split at h
    · cases h
    · rename_i hb
      have hb : tmBad t = false := by simpa using hb
      have hr := (tmcheck_ok hc).2
      rw [h0]
      exact (pw_A (tm_pw t hr hn hb) (-1)).pt (tmA_ne t hr hn hb)
  · rename_i hc; exact absurd (congrArg Prod.snd h) hc
theorem ptB_get : ∀ (l : List UInt8) (p : UInt8), ptB p l = true → ∀ i, l[i]? = some 32 → (i = 0 → p ≠ 32) ∧ i + 1 < l.length ∧ (0 < i → l[i - 1]? ≠ some 32)
  | [], p, _, i, hi => by simp at hi
  | c :: l, p, h, 0, hi => by
    simp at hi
    subst hi
    simp only [ptB, Bool.and_eq_true, Bool.or_eq_true, decide_eq_true_eq] at h
    refine ⟨fun _ => by rcases h.1 with h | h; exact absurd rfl h; exact h, ?_, fun h => by omega⟩
    cases l with
    | nil => simp [ptB] at h
    | cons d l => simp
  | c :: l, p, h, i + 1, hi => by
    simp only [ptB, Bool.and_eq_true] at h
    rw [List.getElem?_cons_succ] at hi
    obtain ⟨a1, a2, a3⟩ := ptB_get l c h.2 i hi
    refine ⟨fun h => by omega, by simp; omega, fun _ => ?_⟩
    rw [Nat.add_sub_cancel]
    cases i with
    | zero => simp only [List.getElem?_cons_zero]; intro e; exact a1 rfl (by simpa using e)
    | succ i => rw [List.getElem?_cons_succ]; exact a3 (by omega)
/-- In bytes. -/
theorem pt_bytes {s : ByteArray} (h : Pt s.data.toList) (i : Nat) (hi : i < s.size) (hb : byteAt s (i : Nat) = 32) : i ≠ 0 ∧ i + 1 < s.size ∧ byteAt s ((i : Int) - 1) ≠ 32 := by
  have hg : ∀ j : Nat, j < s.size → byteAt s (j : Nat) = 32 → s.data.toList[j]? = some 32 := fun j hj e => by
    unfold byteAt at e
    rw [show ((j : Nat) : Int).toNat = j from rfl] at e
    have hlt : j < s.data.toList.length := hj
    rw [List.getElem?_eq_getElem hlt] at e ⊢
    congr 1
    apply UInt8.toNat_inj.1
    exact_mod_cast e
  obtain ⟨a1, a2, a3⟩ := ptB_get _ _ h i (hg i hi hb)
  have h0 : i ≠ 0 := fun e => a1 e rfl
  refine ⟨h0, a2, fun e => ?_⟩
  rw [show (i : Int) - 1 = ((i - 1 : Nat) : Int) by omega] at e
  exact a3 (by omega) (hg (i - 1) (by omega) e)
theorem pt_ne {s : ByteArray} (h : Pt s.data.toList) : s ≠ ⟨#[]⟩ := fun e => by subst e; cases h
end Go.Proofs.YtmaokphbfjpodaaGreatDoor.E

/- Walks: parted, ShowBack. No conditions. -/
set_option linter.unusedVariables false
set_option linter.unusedSimpArgs false
namespace Go.Proofs.YtmaokphbfjpodaaGreatDoor.E
open Go

structure PaI (s : ByteArray) where
  pos : Nat
  hpos : pos ≤ s.size
set_option maxRecDepth 10000 in
set_option maxHeartbeats 2000000 in
theorem parted_call (s : ByteArray) (hp : Pt s.data.toList) (hs : s.size ≤ 1000000) : ACall Tryz.prog 17 [.c (.d (.str s))] [] (fun o σ => o = .ret (.c (.d (.bool true))) ∧ σ = []) := by
  have hne := pt_ne hp
  have hb := pt_bytes hp
  have hw1 : IntKind.i64.wrap ((s.size : Int) - 1) = (s.size : Int) - 1 := by rw [wrap64 (by omega) (by omega)]
  refine ACall.body tab_ok (ρ := 0) (N := 33) Tryz.func17 rfl rfl rfl rfl rfl ?_
  repeat' first | refine AW.seq ?_ | refine AW.block ?_ | ((first | refine AW.region tab_ok ?_ | refine AW.cond ?_ | refine AW.skip ?_ | refine AW.ret ?_ | refine AW.exit ?_); conv => whnf) | ((first | refine And.intro (@rfl Val _) ?_ | refine And.intro (by decide) ?_ | refine cs (fun _ => ?_) (fun _ => ?_)) <;> conv => whnf)
  refine AW.loop (ι := PaI s) (fun x => ⟨33, [(5, .c (.ptr 0 0)), (0, .c (.d (.str s)))], [.it (.d (.str s)) x.pos [] 0], []⟩)
    (fun x => s.size - x.pos) ⟨0, Nat.zero_le _⟩ 1 (fun _ => rfl) (Nat.le_of_ble_eq_true rfl) ⟨⟨rfl, rfl, trivial⟩, rfl, rfl, ⟨[], rfl⟩, rfl⟩ (fun x => ?_)
  obtain ⟨pos, hpos⟩ := x
  dsimp only
  repeat' first | refine AW.seq ?_ | refine AW.block ?_ | ((first | refine AW.region tab_ok ?_ | refine AW.cond ?_ | refine AW.skip ?_ | refine AW.ret ?_ | refine AW.exit ?_); conv => whnf) | ((first | refine And.intro (@rfl Val _) ?_ | refine And.intro (by decide) ?_ | refine cs (fun _ => ?_) (fun _ => ?_)) <;> conv => whnf)
  refine ⟨fun hq => ?_, fun hq => ?_⟩
  · obtain ⟨g1, g2, _⟩ := sk_dec s pos hq false
    generalize Utf8.decode s pos = d at g1 g2
    obtain ⟨c, n⟩ := d
    simp only at g1 g2
    have hw2 : IntKind.i64.wrap ((pos : Int) - 1) = (pos : Int) - 1 := by rw [wrap64 (by omega) (by omega)]
    have hbb := hb pos hq
    conv => whnf
    repeat' first | ((refine And.intro (⟨by omega, by omega⟩ : _ ∧ _) ?_; conv => whnf)) | refine AW.seq ?_ | refine AW.block ?_ | ((first | refine AW.region tab_ok ?_ | refine AW.cond ?_ | refine AW.skip ?_ | refine AW.ret ?_ | refine AW.exit ?_); conv => whnf) | ((first | refine And.intro (@rfl Val _) ?_ | refine And.intro (by decide) ?_ | refine cs (fun _ => ?_) (fun _ => ?_)) <;> conv => whnf)
    · exfalso
      have h32 : byteAt s (pos : Nat) = 32 := by simpa using ‹(byteAt s (pos : Nat) == 32) = true›
      have h0 : pos = 0 := by simpa using ‹((pos : Int) == 0) = true›
      exact (hbb h32).1 h0
    · exfalso
      have h32 : byteAt s (pos : Nat) = 32 := by simpa using ‹(byteAt s (pos : Nat) == 32) = true›
      have h1 : (pos : Int) = IntKind.i64.wrap ((s.size : Int) - 1) := by simpa using ‹(bif false then true else (pos : Int) == IntKind.i64.wrap ((s.size : Int) - 1)) = true›
      rw [hw1] at h1
      have := (hbb h32).2.1
      omega
    · have h32 : byteAt s (pos : Nat) = 32 := by simpa using ‹(byteAt s (pos : Nat) == 32) = true›
      obtain ⟨q1, q2, q3⟩ := hbb h32
      rw [hw2]
      refine And.intro (⟨by omega, by omega⟩ : _ ∧ _) ?_
      conv => whnf
      repeat' first | refine AW.seq ?_ | refine AW.block ?_ | ((first | refine AW.region tab_ok ?_ | refine AW.cond ?_ | refine AW.skip ?_ | refine AW.ret ?_ | refine AW.exit ?_); conv => whnf) | ((first | refine And.intro (@rfl Val _) ?_ | refine And.intro (by decide) ?_ | refine cs (fun _ => ?_) (fun _ => ?_)) <;> conv => whnf)
      · exfalso
        simp_all
      · exact ⟨⟨pos + n, g1⟩, ⟨⟨rfl, rfl, trivial⟩, rfl, rfl, ⟨[], rfl⟩, rfl⟩, show s.size - (pos + n) < s.size - pos by omega⟩
    · exact ⟨⟨pos + n, g1⟩, ⟨⟨rfl, rfl, trivial⟩, rfl, rfl, ⟨[], rfl⟩, rfl⟩, show s.size - (pos + n) < s.size - pos by omega⟩
  · conv => whnf
    repeat' first | refine AW.seq ?_ | refine AW.block ?_ | ((first | refine AW.region tab_ok ?_ | refine AW.cond ?_ | refine AW.skip ?_ | refine AW.ret ?_ | refine AW.exit ?_); conv => whnf) | ((first | refine And.intro (@rfl Val _) ?_ | refine And.intro (by decide) ?_ | refine cs (fun _ => ?_) (fun _ => ?_)) <;> conv => whnf)
    refine ⟨outb ?_, rfl⟩
    simp [hne]
set_option maxRecDepth 10000 in
set_option maxHeartbeats 2000000 in
theorem law_ShowBack (t : Tm) (hn : tmInR t) : ACall Tryz.prog 5 [t.val] [] (fun o σ => o = .ret (.c (.d (.bool true))) ∧ σ = []) := by
  have D := told_call t hn
  have E := fun s e (h : toldF t = (s, e)) (he : e ≠ 0) => told_err h he
  have B := fun s (h : toldF t = (s, 0)) => read_back hn h
  have C := fun s (h : toldF t = (s, 0)) => told_pt hn h
  have hlim := fun s (h : toldF t = (s, 0)) => told_size h
  unfold toldV at D
  generalize hq : toldF t = q at D E B C hlim
  obtain ⟨s, e⟩ := q
  obtain ⟨k, nm, ag, nu, tk, tks, uk, uks, lb, pl, ks⟩ := t
  by_cases he : e = 0
  · subst he
    obtain ⟨_, u, hu, hcl⟩ := B s rfl
    have hp := C s rfl
    have hc : tmcheck (.node k nm ag nu tk tks uk uks lb pl ks) = 0 := told_ok hq
    have hsm := sameT_cl hc hcl
    have P := parseTerm_call s
    unfold termO at P
    rw [hu] at P
    have Q := parted_call s hp (by have := hlim s rfl; omega)
    have R := tSame_call (.node k nm ag nu tk tks uk uks lb pl ks) u
    rw [hsm] at R
    obtain ⟨k', nm', ag', nu', tk', tks', uk', uks', lb', pl', ks'⟩ := u
    refine ACall.body tab_ok (ρ := 0) (N := 32) Tryz.func5 rfl rfl rfl rfl rfl ?_
    repeat' first | refine AW.seq ?_ | refine AW.block ?_ | ((first | refine AW.region tab_ok ?_ | refine AW.cond ?_ | refine AW.skip ?_ | refine AW.ret ?_ | refine AW.exit ?_); conv => whnf) | ((first | refine (D).mono ?_ | refine (P).mono ?_ | refine (Q).mono ?_ | refine (R).mono ?_); rintro _ _ ⟨rfl, rfl⟩; conv => whnf) | ((first | refine And.intro (@rfl Val _) ?_ | refine And.intro (by decide) ?_ | refine cs (fun _ => ?_) (fun _ => ?_)) <;> conv => whnf)
    all_goals first | exact ⟨rfl, rfl⟩
  · obtain rfl := E s e rfl he
    refine ACall.body tab_ok (ρ := 0) (N := 32) Tryz.func5 rfl rfl rfl rfl rfl ?_
    repeat' first | refine AW.seq ?_ | refine AW.block ?_ | ((first | refine AW.region tab_ok ?_ | refine AW.cond ?_ | refine AW.skip ?_ | refine AW.ret ?_ | refine AW.exit ?_); conv => whnf) | (refine (D).mono ?_; rintro _ _ ⟨rfl, rfl⟩; conv => whnf) | ((first | refine And.intro (@rfl Val _) ?_ | refine And.intro (by decide) ?_ | refine cs (fun _ => ?_) (fun _ => ?_)) <;> conv => whnf)
    all_goals first | exact ⟨rfl, rfl⟩ | (exfalso; simp_all; done)
end Go.Proofs.YtmaokphbfjpodaaGreatDoor.E

/- From a row's reading of an argument to a tree. No conditions. -/
set_option linter.unusedVariables false
set_option linter.unusedSimpArgs false
namespace Go.Proofs.YtmaokphbfjpodaaGreatDoor.E
open Go Go.RowKit

/-- All that was there is one region. -/
def rgAll (w : World) : Nat → Option Nat := fun b => if b < w.heap.size then some 0 else none
def czAll (w : World) : Cz := ⟨[], rgAll w⟩
theorem inv_all (w : World) (hg : GlobOk w (czAll w) := by intro a v h; simp [globs] at h) : Inv w (czAll w) [] :=
  ⟨rfl, fun i o e h => by simp at h, fun i o e b h => by simp at h, fun i j o p e f b h => by simp at h, fun b r h => (by
    simp only [czAll, rgAll] at h
    split at h
    · assumption
    · cases h), hg⟩

theorem cell_parts {w : World} {a : Addr} {v : Value} (h : w.cell? a = some v) : a.spot = none ∧ ∃ cs e fz, w.heap[a.block]? = some (.cells cs e fz) ∧ cs[a.off]? = some v := by
  have hs := World.cell?_spot h
  refine ⟨hs, ?_⟩
  unfold World.cell? at h
  split at h
  · rename_i cs e fz hh
    exact ⟨cs, e, fz, hh, by simpa [hs] using h⟩
  · cases h

noncomputable def fld (t i : Nat) : Field := match Tryz.prog.underlying t with
  | some (.struct fs) => fs.getD i default
  | _ => default
theorem u30 : Tryz.prog.underlying 26 = some (.struct #[fld 26 0, fld 26 1]) := by kernel_rfl
theorem f30_0 : (fld 26 0).type = 23 ∧ (fld 26 0).offset = 0 := ⟨by kernel_rfl, by kernel_rfl⟩
theorem f30_1 : (fld 26 1).type = 24 ∧ (fld 26 1).offset = 1 := ⟨by kernel_rfl, by kernel_rfl⟩
theorem u28 : Tryz.prog.underlying 24 = some (.slice 26) := by kernel_rfl
theorem u27 : Tryz.prog.underlying 23 = some (.int .i8) := by kernel_rfl
theorem c30 : Tryz.prog.cellsOf 26 = 2 := by kernel_rfl
theorem c28 : Tryz.prog.cellsOf 24 = 1 := by kernel_rfl
theorem c27 : Tryz.prog.cellsOf 23 = 1 := by kernel_rfl

/-- The cells of a value stand for the data. -/
def Stand (w : World) (cs : List Value) (xs : List DV) : Prop := cs.length = xs.length ∧ ∀ (i : Nat) v x, cs[i]? = some v → xs[i]? = some x → RepD w (rgAll w) v x

section
variable {H : Type} {enc : TypeId × Value → H} {w : World} {base : Nat} {spare : Nat → Bool} {held : Bool}

theorem list_of {α : Type} {Q : Nat → α → Prop} : ∀ n, (∀ i, i < n → ∃ x, Q i x) → ∃ xs : List α, xs.length = n ∧ ∀ (i : Nat) x, xs[i]? = some x → Q i x
  | 0, _ => ⟨[], rfl, fun i x h => by simp at h⟩
  | n + 1, h => by
    obtain ⟨xs, h1, h2⟩ := list_of n (fun i hi => h i (by omega))
    obtain ⟨x, hx⟩ := h n (by omega)
    refine ⟨xs ++ [x], by simp [h1], fun i y hy => ?_⟩
    by_cases hi : i < n
    · rw [List.getElem?_append_left (by omega)] at hy
      exact h2 i y hy
    · rw [List.getElem?_append_right (by omega)] at hy
      cases he : i - xs.length with
      | zero =>
        rw [he] at hy
        simp at hy
        subst hy
        obtain rfl : i = n := by omega
        exact hx
      | succ k => rw [he] at hy; simp at hy

theorem add_none (b o k : Nat) : (⟨b, o, none⟩ : Addr).add k = ⟨b, o + k, none⟩ := by
  unfold Addr.add
  split
  · rename_i h; subst h; rfl
  · rfl

/-- A slice, from its elements. -/
theorem stand_slice {α : Type} (sz : Nat) (hsz : 0 < sz) (f : α → List DV) (hf : ∀ x, (f x).length = sz) {a : Addr} {len cap : Nat} (hlc : len ≤ cap) (h : ∀ i, i < len → ∃ x cs, w.cells? base (a.add (i * sz)) sz = some cs ∧ Stand w cs (f x)) :
    ∃ xs : List α, xs.length = len ∧ RepD w (rgAll w) (.slice (some a) len cap) (.sl 0 sz (xs.map f)) := by
  obtain ⟨xs, hx1, hx2⟩ := list_of len h
  refine ⟨xs, hx1, ?_⟩
  cases xs with
  | nil =>
    simp at hx1
    subst hx1
    exact .sl0 (some a) 0 sz cap
  | cons x0 xr =>
    obtain ⟨cs0, g1, g2⟩ := hx2 0 x0 rfl
    obtain ⟨_, g3, g4⟩ := World.cells?_some g1
    have hc0 := g4 0 hsz
    rw [List.getElem?_eq_getElem (by omega)] at hc0
    obtain ⟨k1, cs, e, fz, k2, k3⟩ := cell_parts hc0
    obtain ⟨b, o, spot⟩ := a
    have hspot : spot = none := by simpa [Addr.add] using k1
    subst hspot
    simp only [Nat.zero_mul, add_none, Nat.add_zero] at k2
    have hlt : b < w.heap.size := by
      rcases Nat.lt_or_ge b w.heap.size with h | h
      · exact h
      · rw [Array.getElem?_eq_none h] at k2; cases k2
    have hcell : ∀ (j i : Nat) x, (x0 :: xr)[j]? = some x → i < sz → ∃ v, cs[o + j * sz + i]? = some v ∧ ∀ y, (f x)[i]? = some y → RepD w (rgAll w) v y := fun j i x hj hi => by
      obtain ⟨cs', q1, q2, q3⟩ := hx2 j x hj
      obtain ⟨_, q4, q5⟩ := World.cells?_some q1
      have q6 := q5 i hi
      rw [List.getElem?_eq_getElem (by omega)] at q6
      obtain ⟨_, cs2, e2, fz2, r2, r3⟩ := cell_parts q6
      simp only [add_none] at r2 r3
      rw [k2] at r2
      cases r2
      exact ⟨_, r3, fun y hy => q3 i _ y (List.getElem?_eq_getElem (by omega)) hy⟩
    refine .sl 0 sz b o len cap _ cs e fz (fun j i => (cs[o + j * sz + i]?).getD undef) ⟨⟨0, by simp [rgAll, hlt], rfl, .inl rfl⟩, fun h => by rcases h with h | h <;> cases h⟩ k2 (by simpa using hx1.symm) hlc (fun row hr => ?_) (fun j i hj hi => ?_) (fun j i row y hj hi => ?_)
    · obtain ⟨x, _, rfl⟩ := List.mem_map.1 hr
      exact hf x
    · obtain ⟨v, hv, _⟩ := hcell j i _ (List.getElem?_eq_getElem (by omega)) hi
      rw [hv]; rfl
    · rw [List.getElem?_map] at hj
      cases hjx : (x0 :: xr)[j]? with
      | none => rw [hjx] at hj; cases hj
      | some x =>
        rw [hjx] at hj
        cases hj
        have hil : i < sz := by
          have := (List.getElem?_eq_some_iff.1 hi).1
          rw [hf] at this; exact this
        obtain ⟨v, hv, hr⟩ := hcell j i x hjx hil
        show RepD w (rgAll w) ((cs[o + j * sz + i]?).getD undef) y
        rw [hv]
        exact hr y hi

theorem rows_map : ∀ ks : List Ty, Ty.rows ks = ks.map Ty.cells
  | [] => rfl
  | t :: l => by simp [Ty.rows, rows_map l]
theorem cells_len (t : Ty) : t.cells.length = 2 := by cases t; rfl

set_option maxRecDepth 100000 in
theorem open_ty : ∀ (fuel : Nat) (cs : List Value) x, DataW.trod enc Tryz.prog w base spare held fuel 26 cs = some x → ∃ t : Ty, Stand w cs t.cells
  | 0, cs, x, h => by simp [DataW.trod] at h
  | fuel + 1, cs, x, h => by
    obtain ⟨xs, n, hn, _, hl, hxl, hf⟩ := DataW.trod_struct u30 h
    obtain rfl : fuel = n := by omega
    rw [c30] at hl
    obtain ⟨a, b, rfl⟩ : ∃ a b, cs = [a, b] := by
      match cs, hl with
      | [a, b], _ => exact ⟨a, b, rfl⟩
    have h0 := hf 0 (fld 26 0) rfl
    have h1 := hf 1 (fld 26 1) rfl
    rw [f30_0.1, f30_0.2, c27] at h0
    rw [f30_1.1, f30_1.2, c28] at h1
    have hx0 : 0 < xs.length := by rw [hxl]; exact Nat.zero_lt_succ _
    have hx1 : 1 < xs.length := by rw [hxl]; exact Nat.lt_succ_self _
    rw [List.getElem?_eq_getElem hx0] at h0
    rw [List.getElem?_eq_getElem hx1] at h1
    simp only [List.drop_zero, List.take_succ_cons, List.take_zero, List.drop_succ_cons] at h0 h1
    obtain ⟨k, hk, _, _⟩ := DataW.trod_int u27 h0
    cases hk
    have two : ∀ ks : List Ty, RepD w (rgAll w) b (.sl 0 2 (Ty.rows ks)) → ∃ t : Ty, Stand w [.int .i8 k, b] t.cells := fun ks hr =>
      ⟨.node k ks, rfl, fun i v y hv hy => by
        match i with
        | 0 => simp [Ty.cells] at hv hy; subst hv; subst hy; exact .int _ _
        | 1 => simp [Ty.cells] at hv hy; subst hv; subst hy; exact hr
        | i + 2 => simp at hv⟩
    rcases DataW.trod_slice u28 h1 with ⟨hb, _⟩ | ⟨a, len, cap, elems, rest, n, hn, hb, _, _, hlc, _, hel, hall, _⟩
    · cases hb
      exact two [] (.sl0 none 0 2 0)
    · cases hb
      rw [c30] at hall
      obtain ⟨ks, hks, hr⟩ := stand_slice (w := w) (base := base) 2 (by decide) Ty.cells cells_len (a := a) hlc (fun i hi => by
        have := hall i hi
        rw [List.getElem?_eq_getElem (by omega)] at this
        obtain ⟨cs', h2, h3⟩ := Option.bind_eq_some_iff.1 this
        obtain ⟨t, ht⟩ := open_ty n cs' _ h3
        exact ⟨t, cs', h2, ht⟩)
      exact two ks (by rw [rows_map]; exact hr)
  termination_by fuel => fuel
  decreasing_by all_goals omega
end

/-- What was there is as it was. -/
theorem below_same {w w' : World} (h : Below w.heap.size w w') {p : MemPlace} (hp : p.block < w.heap.size) : w.sameAt w' p := by
  cases p with
  | cell b off =>
    show w'.cell? _ = w.cell? _
    unfold World.cell?
    rw [h.block b hp]
  | map b => exact h.block b hp
end Go.Proofs.YtmaokphbfjpodaaGreatDoor.E

/- From a law's walk to its row: parts for all rows. No conditions. -/
namespace Go.Proofs.YtmaokphbfjpodaaGreatDoor.E
open Go Go.RowKit

theorem rep1 {w : World} {C : Cz} {u : Value} {x : Val} (h : RepV w C u x) : RepVs w C #[u].toList [x] := .cons h ⟨rfl, fun i v x h => by simp at h⟩
/-- A law that is true: as a call. -/
theorem law_true {P : Program} {f : FuncId} {args : List Val} (h : ACall P f args [] (fun o σ => o = .ret (.c (.d (.bool true))) ∧ σ = [])) {w : World} {vs : Array Value} (hv : RepVs w (czAll w) vs.toList args) (hg : GlobOk w (czAll w) := by intro a v h; simp [globs] at h) :
    Calls P f vs w fun e w' => e = .returned (.bool true) ∧ Below w.heap.size w w' :=
  (h.out w (czAll w) vs (inv_all w hg) hv).mono fun e w' ⟨o, σ', C', ⟨ho, hs⟩, hI, hX, hO⟩ => by
    subst ho; subst hs
    obtain ⟨v, rfl, hr⟩ := hO
    have := bool_of hr
    subst this
    exact ⟨rfl, hX.os, hX.tape, hX.output, hX.size, fun k hk => hX.frame k hk (fun ⟨i, o, e, h, _⟩ => by simp at h) (fun r hr => by simp only [czAll, rgAll] at hr; rw [if_pos hk] at hr; cases hr; rfl)⟩
end Go.Proofs.YtmaokphbfjpodaaGreatDoor.E

/- From a row's reading of a term to a tree. No conditions. -/
set_option linter.unusedVariables false
set_option linter.unusedSimpArgs false
namespace Go.Proofs.YtmaokphbfjpodaaGreatDoor.E
open Go Go.RowKit

theorem u39 : Tryz.prog.underlying 29 = some (.struct #[fld 29 0, fld 29 1, fld 29 2, fld 29 3, fld 29 4, fld 29 5, fld 29 6, fld 29 7, fld 29 8]) := by kernel_rfl
theorem f39_0 : (fld 29 0).type = 23 ∧ (fld 29 0).offset = 0 := ⟨by kernel_rfl, by kernel_rfl⟩
theorem f39_1 : (fld 29 1).type = 9 ∧ (fld 29 1).offset = 1 := ⟨by kernel_rfl, by kernel_rfl⟩
theorem f39_2 : (fld 29 2).type = 9 ∧ (fld 29 2).offset = 2 := ⟨by kernel_rfl, by kernel_rfl⟩
theorem f39_3 : (fld 29 3).type = 2 ∧ (fld 29 3).offset = 3 := ⟨by kernel_rfl, by kernel_rfl⟩
theorem f39_4 : (fld 29 4).type = 26 ∧ (fld 29 4).offset = 4 := ⟨by kernel_rfl, by kernel_rfl⟩
theorem f39_5 : (fld 29 5).type = 26 ∧ (fld 29 5).offset = 6 := ⟨by kernel_rfl, by kernel_rfl⟩
theorem f39_6 : (fld 29 6).type = 3 ∧ (fld 29 6).offset = 8 := ⟨by kernel_rfl, by kernel_rfl⟩
theorem f39_7 : (fld 29 7).type = 3 ∧ (fld 29 7).offset = 9 := ⟨by kernel_rfl, by kernel_rfl⟩
theorem f39_8 : (fld 29 8).type = 27 ∧ (fld 29 8).offset = 10 := ⟨by kernel_rfl, by kernel_rfl⟩
theorem u37 : Tryz.prog.underlying 27 = some (.slice 29) := by kernel_rfl
theorem u9 : Tryz.prog.underlying 9 = some .string := by kernel_rfl
theorem u2 : Tryz.prog.underlying 2 = some (.int .i64) := by kernel_rfl
theorem u3 : Tryz.prog.underlying 3 = some (.int .i64) := by kernel_rfl
theorem c39 : Tryz.prog.cellsOf 29 = 11 := by kernel_rfl
theorem c37 : Tryz.prog.cellsOf 27 = 1 := by kernel_rfl
theorem c9 : Tryz.prog.cellsOf 9 = 1 := by kernel_rfl
theorem c2 : Tryz.prog.cellsOf 2 = 1 := by kernel_rfl
theorem c3 : Tryz.prog.cellsOf 3 = 1 := by kernel_rfl
theorem tcells_len (t : Tm) : t.cells.length = 11 := by cases t; rfl
theorem tm_val {w : World} {v : Value} {t : Tm} (h : Stand w v.cells.toList t.cells) : RepV w (czAll w) v t.val := by
  have hl := h.1
  rw [tcells_len] at hl
  have key : ∀ arr : Array Value, Stand w arr.toList t.cells → RepV w (czAll w) (.agg arr) t.val := fun arr h =>
    .agg _ _ (RepL.ofD (C := czAll w) h.1 h.2)
  cases v <;> first | exact key _ h | (simp [Value.cells] at hl)
section
variable {H : Type} {enc : TypeId × Value → H} {w : World} {base : Nat} {spare : Nat → Bool} {held : Bool}
end
end Go.Proofs.YtmaokphbfjpodaaGreatDoor.E

/- From a row's reading to a term whose numbers are in range. No conditions. (Printed by mk45.py out of OpenS.) -/
set_option linter.unusedVariables false
set_option linter.unusedSimpArgs false
namespace Go.Proofs.YtmaokphbfjpodaaGreatDoor.E
open Go Go.RowKit

theorem tmInRs_of : ∀ {ks : List Tm}, (∀ t ∈ ks, tmInR t) → tmInRs ks
  | [], _ => trivial
  | t :: l, h => ⟨h t (by simp), tmInRs_of fun x hx => h x (by simp [hx])⟩
section
variable {H : Type} {enc : TypeId × Value → H} {w : World} {base : Nat} {spare : Nat → Bool} {held : Bool}
theorem stand_sliceR {α : Type} (Q : α → Prop) (sz : Nat) (hsz : 0 < sz) (f : α → List DV) (hf : ∀ x, (f x).length = sz) {a : Addr} {len cap : Nat} (hlc : len ≤ cap) (h : ∀ i, i < len → ∃ x cs, w.cells? base (a.add (i * sz)) sz = some cs ∧ Stand w cs (f x) ∧ Q x) :
    ∃ xs : List α, xs.length = len ∧ (∀ x ∈ xs, Q x) ∧ RepD w (rgAll w) (.slice (some a) len cap) (.sl 0 sz (xs.map f)) := by
  obtain ⟨xs, h1, h2⟩ := stand_slice (α := {x : α // Q x}) (w := w) (base := base) sz hsz (fun x => f x.1) (fun x => hf x.1) hlc (fun i hi => by
    obtain ⟨x, cs, g1, g2, g3⟩ := h i hi
    exact ⟨⟨x, g3⟩, cs, g1, g2⟩)
  refine ⟨xs.map (·.1), by simpa using h1, fun x hx => ?_, by simpa [List.map_map] using h2⟩
  obtain ⟨y, _, rfl⟩ := List.mem_map.1 hx
  exact y.2
set_option maxRecDepth 100000 in
theorem open_tmR : ∀ (fuel : Nat) (cs : List Value) x, DataW.trod enc Tryz.prog w base spare held fuel 29 cs = some x → ∃ t : Tm, Stand w cs t.cells ∧ tmInR t
  | 0, cs, x, h => by simp [DataW.trod] at h
  | fuel + 1, cs, x, h => by
    obtain ⟨xs, n, hn, hxx, hl, hxl, hf⟩ := DataW.trod_struct u39 h
    subst hxx
    obtain rfl : fuel = n := by omega
    rw [c39] at hl
    obtain ⟨v0, v1, v2, v3, v4, v5, v6, v7, v8, v9, v10, rfl⟩ : ∃ v0 v1 v2 v3 v4 v5 v6 v7 v8 v9 v10, cs = [v0, v1, v2, v3, v4, v5, v6, v7, v8, v9, v10] := by
      match cs, hl with
      | [v0, v1, v2, v3, v4, v5, v6, v7, v8, v9, v10], _ => exact ⟨_, _, _, _, _, _, _, _, _, _, _, rfl⟩
    have h0 := hf 0 (fld 29 0) rfl
    have h1 := hf 1 (fld 29 1) rfl
    have h2 := hf 2 (fld 29 2) rfl
    have h3 := hf 3 (fld 29 3) rfl
    have h4 := hf 4 (fld 29 4) rfl
    have h5 := hf 5 (fld 29 5) rfl
    have h6 := hf 6 (fld 29 6) rfl
    have h7 := hf 7 (fld 29 7) rfl
    have h8 := hf 8 (fld 29 8) rfl
    rw [f39_0.1, f39_0.2, c27] at h0
    rw [f39_1.1, f39_1.2, c9] at h1
    rw [f39_2.1, f39_2.2, c9] at h2
    rw [f39_3.1, f39_3.2, c2] at h3
    rw [f39_4.1, f39_4.2, c30] at h4
    rw [f39_5.1, f39_5.2, c30] at h5
    rw [f39_6.1, f39_6.2, c3] at h6
    rw [f39_7.1, f39_7.2, c3] at h7
    rw [f39_8.1, f39_8.2, c37] at h8
    have hx : ∀ i, i < 9 → i < xs.length := fun i hi => by rw [hxl]; exact hi
    rw [List.getElem?_eq_getElem (hx 0 (by omega))] at h0
    rw [List.getElem?_eq_getElem (hx 1 (by omega))] at h1
    rw [List.getElem?_eq_getElem (hx 2 (by omega))] at h2
    rw [List.getElem?_eq_getElem (hx 3 (by omega))] at h3
    rw [List.getElem?_eq_getElem (hx 4 (by omega))] at h4
    rw [List.getElem?_eq_getElem (hx 5 (by omega))] at h5
    rw [List.getElem?_eq_getElem (hx 6 (by omega))] at h6
    rw [List.getElem?_eq_getElem (hx 7 (by omega))] at h7
    rw [List.getElem?_eq_getElem (hx 8 (by omega))] at h8
    simp only [List.drop_zero, List.take_succ_cons, List.take_zero, List.drop_succ_cons] at h0 h1 h2 h3 h4 h5 h6 h7 h8
    obtain ⟨k, hk, _, _⟩ := DataW.trod_int u27 h0
    cases hk
    obtain ⟨name, hk, _, _⟩ := DataW.trod_string u9 h1
    cases hk
    obtain ⟨arg, hk, _, _⟩ := DataW.trod_string u9 h2
    cases hk
    obtain ⟨num, hk, _, hnum⟩ := DataW.trod_int u2 h3
    cases hk
    obtain ⟨⟨tk, tks⟩, _, s4⟩ := open_ty _ _ _ h4
    obtain ⟨⟨uk, uks⟩, _, s5⟩ := open_ty _ _ _ h5
    obtain ⟨label, hk, _, _⟩ := DataW.trod_int u3 h6
    cases hk
    obtain ⟨place, hk, _, _⟩ := DataW.trod_int u3 h7
    cases hk
    have q0 := s4 0 _ _ rfl rfl
    have q1 := s4 1 _ _ rfl rfl
    have q2 := s5 0 _ _ rfl rfl
    have q3 := s5 1 _ _ rfl rfl
    have two : ∀ ks : List Tm, RepD w (rgAll w) v10 (.sl 0 11 (Tm.rows ks)) → (∀ t ∈ ks, tmInR t) → ∃ t : Tm, Stand w [.int .i8 k, .string name, .string arg, .int .i64 num, v4, v5, v6, v7, .int .i64 label, .int .i64 place, v10] t.cells ∧ tmInR t := fun ks hr hk2 =>
      ⟨.node k name arg num tk tks uk uks label place ks, ⟨rfl, fun i v y hv hy => by
        match i with
        | 0 => simp [Tm.cells] at hv hy; subst hv; subst hy; exact .int _ _
        | 1 => simp [Tm.cells] at hv hy; subst hv; subst hy; exact .str _
        | 2 => simp [Tm.cells] at hv hy; subst hv; subst hy; exact .str _
        | 3 => simp [Tm.cells] at hv hy; subst hv; subst hy; exact .int _ _
        | 4 => simp [Tm.cells] at hv hy; subst hv; subst hy; exact q0
        | 5 => simp [Tm.cells] at hv hy; subst hv; subst hy; exact q1
        | 6 => simp [Tm.cells] at hv hy; subst hv; subst hy; exact q2
        | 7 => simp [Tm.cells] at hv hy; subst hv; subst hy; exact q3
        | 8 => simp [Tm.cells] at hv hy; subst hv; subst hy; exact .int _ _
        | 9 => simp [Tm.cells] at hv hy; subst hv; subst hy; exact .int _ _
        | 10 => simp [Tm.cells] at hv hy; subst hv; subst hy; exact hr
        | i + 11 => simp at hv⟩, ⟨bounds_i64 hnum, tmInRs_of hk2⟩⟩
    rcases DataW.trod_slice u37 h8 with ⟨hb, _⟩ | ⟨a, len, cap, elems, rest, n, hn, hb, hxs, _, hlc, _, hel, hall, _⟩
    · cases hb
      exact two [] (.sl0 none 0 11 0) (by simp)
    · cases hb
      rw [c39] at hall
      obtain ⟨ks, hks, hq, hr⟩ := stand_sliceR (w := w) (base := base) tmInR 11 (by decide) Tm.cells tcells_len (a := a) hlc (fun i hi => by
        have := hall i hi
        rw [List.getElem?_eq_getElem (by omega)] at this
        obtain ⟨cs', h2, h3⟩ := Option.bind_eq_some_iff.1 this
        obtain ⟨t, ht, ho⟩ := open_tmR n cs' _ h3
        exact ⟨t, cs', h2, ht, ho⟩)
      exact two ks (by rw [trows_map]; exact hr) hq
  termination_by fuel => fuel
  decreasing_by all_goals omega
end
end Go.Proofs.YtmaokphbfjpodaaGreatDoor.E
