/- Free names: both answers are the same; the law. No conditions. -/
import Derived.Test.YthmbncehoblgpaaGreatDoorFr5
set_option linter.unusedVariables false
set_option linter.unusedSimpArgs false
namespace Go.Proofs.YthmbncehoblgpaaGreatDoor.E
open Go

/-! ### Maps as functions -/
def tv (s : ByteArray) : TL → Option Int
  | [] => none
  | (_, k, v) :: l => if s = k then some v else tv s l
theorem tget_tv (s : ByteArray) : ∀ (l : TL) (i : Nat), (tget s l i).map (·.2) = tv s l
  | [], i => rfl
  | (c, k, v) :: l, i => by
    simp only [tget, tv]
    split
    · rfl
    · exact tget_tv s l (i + 1)
theorem tval_tv (s : ByteArray) (l : TL) : tval s l = (tv s l).getD 0 := by
  rw [← tget_tv s l 0]
  unfold tval
  cases tget s l 0 <;> rfl
theorem tv_none {s : ByteArray} : ∀ {l : TL}, tv s l = none ↔ s ∉ l.map (·.2.1)
  | [] => by simp [tv]
  | (c, k, v) :: l => by
    simp only [tv, List.map_cons, List.mem_cons, not_or]
    split
    · rename_i e; simp [e]
    · rename_i e; rw [tv_none (l := l)]; exact ⟨fun h => ⟨e, h⟩, fun h => h.2⟩
theorem tv_app (s : ByteArray) (x : Nat × ByteArray × Int) : ∀ l : TL, tv s (l ++ [x]) = (tv s l).or (if s = x.2.1 then some x.2.2 else none)
  | [] => by obtain ⟨c, k, v⟩ := x; simp [tv]
  | (c, k, v) :: l => by
    simp only [List.cons_append, tv]
    split
    · rfl
    · exact tv_app s x l
theorem tv_tset (s s' : ByteArray) (v : Int) : ∀ (l : TL) (i k : Nat) (u : Int), tget s l i = some (i + k, u) → tv s' (tset k v l) = if s' = s then some v else tv s' l
  | [], i, k, u, h => by simp [tget] at h
  | (c, q, w) :: l, i, k, u, h => by
    simp only [tget] at h
    split at h
    · rename_i e
      simp only [Option.some.injEq, Prod.mk.injEq] at h
      obtain rfl : k = 0 := by omega
      subst e
      simp only [tset, tv]
      split <;> rfl
    · rename_i e
      obtain ⟨n, hn, _⟩ := tget_some h
      obtain rfl : k = n + 1 := by omega
      simp only [tset, tv]
      have ih := tv_tset s s' v l (i + 1) n u (by rw [h]; congr 2 <;> omega)
      split
      · rename_i e2
        subst e2
        rw [if_neg (fun e3 => e e3.symm)]
      · exact ih
theorem tv_erase (s s' : ByteArray) : ∀ (l : TL) (i k : Nat) (u : Int), (l.map (·.2.1)).Nodup → tget s l i = some (i + k, u) → tv s' (l.eraseIdx k) = if s' = s then none else tv s' l
  | [], i, k, u, _, h => by simp [tget] at h
  | (c, q, w) :: l, i, k, u, hn, h => by
    simp only [List.map_cons, List.nodup_cons] at hn
    simp only [tget] at h
    split at h
    · rename_i e
      simp only [Option.some.injEq, Prod.mk.injEq] at h
      obtain rfl : k = 0 := by omega
      subst e
      simp only [List.eraseIdx_zero, List.tail_cons, tv]
      split
      · rename_i e2; subst e2; exact tv_none.2 hn.1
      · rfl
    · rename_i e
      obtain ⟨n, hn', _⟩ := tget_some h
      obtain rfl : k = n + 1 := by omega
      simp only [List.eraseIdx_cons_succ, tv]
      have ih := tv_erase s s' l (i + 1) n u hn.2 (by rw [h]; congr 2 <;> omega)
      split
      · rename_i e2
        subst e2
        rw [if_neg (fun e3 => e e3.symm)]
      · exact ih
theorem tv_tput (s s' : ByteArray) (v : Int) (m : Nat × TL) : tv s' (tput s v m).2 = if s' = s then some v else tv s' m.2 := by
  unfold tput
  cases hg : tget s m.2 0 with
  | some x =>
    obtain ⟨j, u⟩ := x
    exact tv_tset s s' v m.2 0 j u (by simpa using hg)
  | none =>
    have hn : tv s m.2 = none := by rw [← tget_tv s m.2 0, hg]; rfl
    simp only [tv_app]
    split
    · rename_i e; subst e; rw [hn]; rfl
    · simp
theorem tv_tdel (s s' : ByteArray) {l : TL} (hn : (l.map (·.2.1)).Nodup) : tv s' (tdel s l) = if s' = s then none else tv s' l := by
  unfold tdel
  cases hg : tget s l 0 with
  | some x =>
    obtain ⟨j, u⟩ := x
    exact tv_erase s s' l 0 j u hn (by simpa using hg)
  | none =>
    have hn : tv s l = none := by rw [← tget_tv s l 0, hg]; rfl
    show tv s' l = _
    by_cases e : s' = s
    · subst e; rw [if_pos rfl]; exact hn
    · rw [if_neg e]
theorem tval_tput (s s' : ByteArray) (v : Int) (m : Nat × TL) : tval s' (tput s v m).2 = if s' = s then v else tval s' m.2 := by
  rw [tval_tv, tv_tput, tval_tv]; split <;> rfl
theorem tval_tdel (s s' : ByteArray) {l : TL} (hn : (l.map (·.2.1)).Nodup) : tval s' (tdel s l) = if s' = s then 0 else tval s' l := by
  rw [tval_tv, tv_tdel s s' hn, tval_tv]; split <;> rfl
theorem keys_tput (s s' : ByteArray) (v : Int) (m : Nat × TL) : s' ∈ (tput s v m).2.map (·.2.1) ↔ s' ∈ m.2.map (·.2.1) ∨ s' = s := by
  have h := tv_tput s s' v m
  have h1 := tv_none (s := s') (l := (tput s v m).2)
  have h2 := tv_none (s := s') (l := m.2)
  rw [h] at h1
  by_cases e : s' = s
  · rw [if_pos e] at h1
    simp only [reduceCtorEq, false_iff, Classical.not_not] at h1
    exact ⟨fun _ => .inr e, fun _ => h1⟩
  · rw [if_neg e, h2] at h1
    constructor
    · intro hm; exact .inl (Classical.not_not.1 fun hc => h1.1 hc hm)
    · rintro (hm | hm)
      · exact Classical.not_not.1 fun hc => h1.2 hc hm
      · exact absurd hm e

/-! ### Both walks -/
def cnt (s : ByteArray) (b : List ByteArray) : Nat := b.countP fun t => decide (t = s)
theorem cnt_app (s a : ByteArray) (b : List ByteArray) : cnt s (b ++ [a]) = cnt s b + if a = s then 1 else 0 := by
  unfold cnt
  rw [List.countP_append, List.countP_singleton]
  by_cases h : a = s <;> simp [h]
theorem cnt_len (s : ByteArray) (b : List ByteArray) : cnt s b ≤ b.length := List.countP_le_length
theorem cnt_pos {s : ByteArray} {b : List ByteArray} : 0 < cnt s b ↔ s ∈ b := by
  unfold cnt
  rw [List.countP_pos_iff]
  exact ⟨fun ⟨t, h, e⟩ => of_decide_eq_true e ▸ h, fun h => ⟨s, h, decide_eq_true rfl⟩⟩
structure Rel (m : FM) (b l : List ByteArray) : Prop where
  wf : WfF m
  bnd : ∀ s, tval s m.1.2 = (cnt s b : Int)
  fre : ∀ s, s ∈ m.2.2.map (·.2.1) ↔ s ∈ l
  nd : l.Nodup
theorem Rel.inn {m : FM} {b l : List ByteArray} (h : Rel m b l) (s : ByteArray) (hb : b.length ≤ 1000000) : Rel (finn s m) (b ++ [s]) l :=
  ⟨⟨tput_wf h.wf.1, h.wf.2⟩, fun s' => by
    have hc := cnt_len s b
    simp only [finn, tval_tput, cnt_app, h.bnd]
    rw [wrap64 (by omega) (by omega)]
    by_cases e : s' = s
    · subst e; simp
    · rw [if_neg e, if_neg (fun e2 => e e2.symm)]; simp, h.fre, h.nd⟩
theorem Rel.dec {m : FM} {b l : List ByteArray} {s : ByteArray} (h : Rel m (b ++ [s]) l) (hb : b.length ≤ 1000000) : Rel (fdec s m) b l :=
  ⟨⟨tput_wf h.wf.1, h.wf.2⟩, fun s' => by
    have hc := cnt_len s b
    have h1 := h.bnd s
    have h2 := h.bnd s'
    rw [cnt_app] at h1 h2
    rw [if_pos rfl] at h1
    simp only [fdec, tval_tput, h1]
    rw [wrap64 (by omega) (by omega)]
    by_cases e : s' = s
    · subst e; simp
    · rw [if_neg e, h2, if_neg (fun e2 => e e2.symm)]; simp, h.fre, h.nd⟩
theorem Rel.out {m : FM} {b l : List ByteArray} {s : ByteArray} (h : Rel m (b ++ [s]) l) (hb : b.length ≤ 1000000) : Rel (fout s m) b l := by
  have hd := h.dec hb
  unfold fout
  split
  · rename_i h0
    refine ⟨⟨tdel_wf hd.wf.1, hd.wf.2⟩, fun s' => ?_, hd.fre, hd.nd⟩
    simp only [tval_tdel s s' hd.wf.1.keys]
    split
    · rename_i e; subst e; rw [← hd.bnd s']; exact h0.symm
    · exact hd.bnd s'
  · exact hd
theorem Rel.win {m : FM} {b l : List ByteArray} (h : Rel m b l) (w : List ByteArray) (hw : w.length ≤ 2) (hb : b.length ≤ 900000) : Rel (E.win w m) (b ++ w) l := by
  match w, hw with
  | [], _ => simpa [E.win] using h
  | [s], _ => exact h.inn s (by omega)
  | [s, a], _ =>
    have := (h.inn s (by omega)).inn a (by simp; omega)
    simpa [E.win] using this
theorem Rel.wout {m : FM} {b l : List ByteArray} (w : List ByteArray) (hw : w.length ≤ 2) (hb : b.length ≤ 900000) (h : Rel m (b ++ w) l) : Rel (E.wout w m) b l := by
  match w, hw with
  | [], _ => simpa [E.wout] using h
  | [s], _ => exact h.out (by omega)
  | [s, a], _ =>
    have h' : Rel m ((b ++ [s]) ++ [a]) l := by simpa using h
    exact (h'.out (by simp; omega)).dec (by omega)
theorem wsK_len (k : Int) (name arg : ByteArray) : ∀ w ∈ wsK k name arg, w.length ≤ 2 := by
  intro w hw
  unfold wsK at hw
  split at hw
  · simp at hw; subst hw; simp
  · split at hw
    · simp at hw; subst hw; simp
    · split at hw
      · simp at hw; rcases hw with rfl | rfl <;> simp
      · split at hw
        · simp at hw; rcases hw with rfl | rfl | rfl <;> simp
        · simp at hw
theorem rel_term (t : Tm) : ∀ (m : FM) (b l : List ByteArray), b.length + 2 * tmN t ≤ 900000 → Rel m b l → Rel (fterm t m) b (rfree t b l) := by
  induction t using Tm.ind with
  | _ k name arg num tk tks uk uks label place ks ih =>
  intro m b l hb h
  simp only [fterm, rfree]
  simp only [tmN] at hb
  split
  · have hv := h.bnd name
    by_cases e : inF b name = true
    · rw [if_pos e]
      have : 0 < cnt name b := cnt_pos.2 (inF_iff.1 e)
      rw [if_neg (by omega)]
      exact h
    · rw [if_neg e]
      have hz : ¬ 0 < cnt name b := fun hm => e (inF_iff.2 (cnt_pos.1 hm))
      rw [if_pos (by omega)]
      by_cases e2 : inF l name = true
      · rw [if_pos e2]
        refine ⟨⟨h.wf.1, tput_wf h.wf.2⟩, h.bnd, fun s => ?_, h.nd⟩
        rw [keys_tput, h.fre]
        exact ⟨fun hm => hm.elim id fun e3 => e3 ▸ inF_iff.1 e2, .inl⟩
      · rw [if_neg e2]
        refine ⟨⟨h.wf.1, tput_wf h.wf.2⟩, h.bnd, fun s => ?_, ?_⟩
        · rw [keys_tput, h.fre]; simp
        · exact List.nodup_append.2 ⟨h.nd, by simp, fun a ha c hc e3 => e2 (inF_iff.2 (by simp at hc; rw [← hc, ← e3]; exact ha))⟩
  · have : ∀ (ks : List Tm), (∀ t ∈ ks, ∀ (m : FM) (b l : List ByteArray), b.length + 2 * tmN t ≤ 900000 → Rel m b l → Rel (fterm t m) b (rfree t b l)) → ∀ (w : List (List ByteArray)), (∀ x ∈ w, x.length ≤ 2) → ∀ (m : FM) (b l : List ByteArray), b.length + 2 + 2 * tmNL ks ≤ 900000 → Rel m b l → Rel (fterms ks w m) b (rfrees ks w b l) := by
      intro ks
      induction ks with
      | nil => intro _ w _ m b l _ h; exact h
      | cons t ts il =>
        intro hk w hw m b l hb h
        simp only [tmNL] at hb
        simp only [fterms, rfrees]
        have hh : (w.headD []).length ≤ 2 := by
          cases w with
          | nil => simp
          | cons x w => exact hw x (by simp)
        refine il (fun t ht => hk t (List.mem_cons_of_mem _ ht)) w.tail (fun x hx => hw x (List.mem_of_mem_tail hx)) _ b _ (by omega) ?_
        refine Rel.wout _ hh (by omega) ?_
        exact hk t (by simp) _ (b ++ w.headD []) l (by simp only [List.length_append]; omega) (h.win _ hh (by omega))
    exact this ks (fun t ht => ih t ht) _ (wsK_len k name arg) m b l (by omega) h
theorem free_same (t : Tm) : freeS t = rfreeS t := by
  unfold freeS rfreeS
  split
  · rename_i hc
    have hN := (tmcheck_ok hc).1
    have h := rel_term t ((0, []), (0, [])) [] [] (by simp; omega) ⟨⟨⟨by simp, by simp, by simp⟩, ⟨by simp, by simp, by simp⟩⟩, fun s => by rw [tval_tv]; rfl, by simp, by simp⟩
    refine bsort_of_perm ((List.perm_ext_iff_of_nodup h.wf.2.keys h.nd).2 h.fre)
  · rfl

/-! ### The law -/
set_option maxRecDepth 10000 in
theorem names_call (l : List ByteArray) (hl : l.length ≤ 1000000) : ACall Tryz.prog 7 [.c (.d (.sl 0 1 (strs l))), .c (.d (.sl 0 1 (strs l)))] [] (fun o σ => o = .ret (.c (.d (.bool true))) ∧ σ = []) := by
  refine ACall.body tab_ok (ρ := 0) (N := 26) Tryz.func7 rfl rfl rfl rfl rfl ?_
  repeat' first | refine AW.seq ?_ | refine AW.block ?_ | (refine (_root_.id : AW _ _ _ (.region 6 _ true) _ _ → _) ?_; refine AW.draw (id := 6) tab_ok mixed [0, 1, 2, 3, 4, 5, 6, 7, 8] (by kernel_rfl) ?_; conv => whnf) | ((first | refine AW.region tab_ok ?_ | refine AW.cond ?_ | refine AW.skip ?_ | refine AW.ret ?_ | refine AW.exit ?_); conv => whnf) | ((first | refine And.intro (@rfl Val _) ?_ | refine And.intro (by decide) ?_ | refine cs (fun _ => ?_) (fun _ => ?_)) <;> conv => whnf)
  · rename_i h
    simp at h
  · refine AW.loop (ι := UpS l) (fun x => ⟨26, [(13, .c (.d (.int .i64 x.i))), (12, .c (.d (.int .i64 (strs l).length))), (0, .c (.d (.sl 0 1 (strs l)))), (1, .c (.d (.sl 0 1 (strs l))))], [], []⟩)
      (fun x => l.length - x.i) ⟨0, Nat.zero_le _⟩ 0 (fun _ => rfl) (Nat.le_of_ble_eq_true rfl) ⟨⟨rfl, rfl, rfl, rfl, trivial⟩, rfl, rfl, ⟨[], rfl⟩, rfl⟩ (fun x => ?_)
    obtain ⟨i, hi⟩ := x
    repeat' first | refine AW.seq ?_ | refine AW.block ?_ | (refine (_root_.id : AW _ _ _ (.region 6 _ true) _ _ → _) ?_; refine AW.draw (id := 6) tab_ok mixed [0, 1, 2, 3, 4, 5, 6, 7, 8] (by kernel_rfl) ?_; conv => whnf) | ((first | refine AW.region tab_ok ?_ | refine AW.cond ?_ | refine AW.skip ?_ | refine AW.ret ?_ | refine AW.exit ?_); conv => whnf) | ((first | refine And.intro (@rfl Val _) ?_ | refine And.intro (by decide) ?_ | refine cs (fun _ => ?_) (fun _ => ?_)) <;> conv => whnf)
    · rename_i h1
      simp only [strs_len] at h1 ⊢
      have := of_decide_eq_true h1
      refine ⟨by omega, fun row hrow => ?_⟩
      obtain ⟨t, ht, rfl⟩ := strs_get (by simpa using hrow)
      have hlt : i < l.length := (List.getElem?_eq_some_iff.1 ht).1
      conv => whnf
      repeat' first | refine AW.seq ?_ | refine AW.block ?_ | (refine (_root_.id : AW _ _ _ (.region 6 _ true) _ _ → _) ?_; refine AW.draw (id := 6) tab_ok mixed [0, 1, 2, 3, 4, 5, 6, 7, 8] (by kernel_rfl) ?_; conv => whnf) | ((first | refine AW.region tab_ok ?_ | refine AW.cond ?_ | refine AW.skip ?_ | refine AW.ret ?_ | refine AW.exit ?_); conv => whnf) | ((first | refine And.intro (@rfl Val _) ?_ | refine And.intro (by decide) ?_ | refine cs (fun _ => ?_) (fun _ => ?_)) <;> conv => whnf)
      simp only [strs_len] at *
      refine ⟨by omega, fun row hrow => ?_⟩
      obtain ⟨t', ht', rfl⟩ := strs_get (by simpa using hrow)
      obtain rfl : t = t' := by rw [ht] at ht'; exact Option.some.inj ht'
      conv => whnf
      repeat' first | refine AW.seq ?_ | refine AW.block ?_ | (refine (_root_.id : AW _ _ _ (.region 6 _ true) _ _ → _) ?_; refine AW.draw (id := 6) tab_ok mixed [0, 1, 2, 3, 4, 5, 6, 7, 8] (by kernel_rfl) ?_; conv => whnf) | ((first | refine AW.region tab_ok ?_ | refine AW.cond ?_ | refine AW.skip ?_ | refine AW.ret ?_ | refine AW.exit ?_); conv => whnf) | ((first | refine And.intro (@rfl Val _) ?_ | refine And.intro (by decide) ?_ | refine cs (fun _ => ?_) (fun _ => ?_)) <;> conv => whnf)
      · rename_i h3
        simp at h3
      · rw [wrap64 (x := (i : Int) + 1) (by omega) (by omega)]
        exact ⟨⟨i + 1, hlt⟩, ⟨⟨rfl, rfl, rfl, rfl, trivial⟩, rfl, rfl, ⟨[], rfl⟩, rfl⟩, show l.length - (i + 1) < l.length - i by omega⟩
    · exact ⟨rfl, rfl⟩
end Go.Proofs.YthmbncehoblgpaaGreatDoor.E
