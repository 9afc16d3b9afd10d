/- Texts, merged: Df8, Df10, As3, Df9, On0. No conditions. -/
import Derived.Test.YthmbncehoblgpaaDoorGenX7
import Derived.Test.YthmbncehoblgpaaDoorGenX8
import Derived.Test.YthmbncehoblgpaaDoorGenX4
import Derived.Test.YthmbncehoblgpaaDoorGenX5
/- Walks: defs.Link, the document's. No conditions. -/
set_option linter.unusedVariables false
set_option linter.unusedSimpArgs false
namespace Go.Proofs.YthmbncehoblgpaaDoor.E
open Go

def DfOk (d : Df) : Prop := TyOk d.ty ∧ TmOk d.tm
def letT : Df → Tm → Tm
  | ⟨s, .node a bs, x, pl⟩, t => .node 7 s noB 0 a bs 0 [] 0 pl [x, t]
def varT (s : ByteArray) (pl : Int) : Tm := .node 0 s noB 0 0 [] 0 [] 0 pl []
def tmZ0 : Tm := .node 0 noB noB 0 0 [] 0 [] 0 0 []
noncomputable def linkS (l : List Df) (k n : Nat) (t : Tm) : Tm := match l[n]? with
  | some d => if isR l k n = true then letT d t else t
  | none => t
noncomputable def linkF (l : List Df) (k : Nat) : Nat → Tm → Tm
  | 0, t => t
  | n + 1, t => linkF l k n (linkS l k n t)
theorem letT_ok {d : Df} {t : Tm} (hd : DfOk d) (ht : TmOk t) : TmOk (letT d t) := by
  obtain ⟨s, ⟨a, bs⟩, x, pl⟩ := d
  exact .node hd.1 (.node (by simp) (by simp)) (by simp) (by simp; exact ⟨hd.2, ht⟩)
theorem linkF_ok {l : List Df} {k : Nat} (hl : ∀ d ∈ l, DfOk d) : ∀ (n : Nat) (t : Tm), TmOk t → TmOk (linkF l k n t)
  | 0, t, h => h
  | n + 1, t, h => by
    refine linkF_ok hl n _ ?_
    unfold linkS
    split
    · rename_i d hd
      split
      · exact letT_ok (hl d (List.mem_of_getElem? hd)) h
      · exact h
    · exact h
theorem varT_ok (s : ByteArray) (pl : Int) : TmOk (varT s pl) := .node (.node (by simp) (by simp)) (.node (by simp) (by simp)) (by simp) (by simp)
noncomputable def linkTm (l : List Df) (main : ByteArray) : Tm := match l[(soundF l main).1.toNat]? with
  | some d => linkF l (soundF l main).1.toNat ((soundF l main).1.toNat + 1) (varT main d.pl)
  | none => tmZ0
noncomputable def linkE (l : List Df) (main : ByteArray) : Fl := if (soundF l main).2.1 ≠ 0 then (soundF l main).2 else if tmcheck (linkTm l main) ≠ 0 then (tmcheck (linkTm l main), 0, noB) else (0, 0, noB)
noncomputable def linkR (l : List Df) (main : ByteArray) : Tm := if (linkE l main).1 = 0 then linkTm l main else tmZ0
theorem linkTm_ok {l : List Df} (hl : ∀ d ∈ l, DfOk d) (main : ByteArray) : TmOk (linkTm l main) := by
  unfold linkTm
  split
  · exact linkF_ok hl _ _ (varT_ok _ _)
  · exact varT_ok _ _

abbrev LkC := Option (ByteArray × Int × List Ty × Int × Tm × Tm)
def lkT (main : ByteArray) (pl : Int) : LkC → Tm
  | none => varT main pl
  | some (s, a, bs, p, x, y) => .node 7 s noB 0 a bs 0 [] 0 p [x, y]
def lkA (main : ByteArray) (pl : Int) : LkC → List AV
  | none => [.d (.int .i8 0), .d (.str main), .d (.str noB), .d (.int .i64 0), .d (.int .i8 0), .d .nils, .d (.int .i8 0), .d .nils, .d (.int .i64 0), .d (.int .i64 pl), .d .nils]
  | some (s, a, bs, p, x, y) => [.d (.int .i8 7), .d (.str s), .d (.str noB), .d (.int .i64 0), .d (.int .i8 a), .d (.sl 0 2 (Ty.rows bs)), .d (.int .i8 0), .d .nils, .d (.int .i64 0), .d (.int .i64 p), .d (.sl 0 11 (Tm.rows [x, y]))]
structure LkI (l : List Df) (k : Nat) (main : ByteArray) (pl : Int) (T : Tm) where
  n : Nat
  hn : n ≤ k + 1
  c : LkC
  h : linkF l k n (lkT main pl c) = T
  hc : n ≤ k → c.isSome = true
set_option maxRecDepth 10000 in
theorem Link_call (l : List Df) (main : ByteArray) (hok : ∀ d ∈ l, DfOk d) : ACall Tryd.prog 5 [.c (.d (.sl 0 15 (drows l))), .c (.d (.str main))] [] (fun o σ => o = .ret (.tup [(linkR l main).val, .c (.d (errV (linkE l main)))]) ∧ σ = []) := by
  have c1 := sound_call l main
  by_cases hz : (soundF l main).2.1 = 0
  · obtain ⟨hl, hu, _, k, d, hd, hn, hs⟩ := soundF_ok hz
    have hk := (List.getElem?_eq_some_iff.1 hd).1
    have hT : linkTm l main = linkF l k (k + 1) (varT main d.pl) := by
      simp only [linkTm, hs, Int.toNat_natCast, hd]
    have hE : linkE l main = if tmcheck (linkTm l main) ≠ 0 then (tmcheck (linkTm l main), 0, noB) else (0, 0, noB) := by rw [linkE, if_neg (by simp [hz])]
    have hR : linkR l main = if tmcheck (linkTm l main) = 0 then linkTm l main else tmZ0 := by
      unfold linkR
      rw [hE]
      by_cases h : tmcheck (linkTm l main) = 0 <;> simp [h]
    rw [hE, hR]
    have c3 := tmCheck_call (linkTm l main)
    have c4 : tmcheck (linkTm l main) = 0 → ACall Tryd.prog 14 [(linkTm l main).val] [] (fun o σ => o = .ret (linkTm l main).val ∧ σ = []) := fun h => dcopied_call _ (fine2_of _ (linkTm_ok hok main) (tmcheck_ok h).2)
    rw [hs] at c1
    have c2 := needed_call l k hk hl hu
    have hB : ∀ (i : Nat) row, (brows (needB l k))[i]? = some row → row = [.bool (isR l k i)] := fun i row h => by
      obtain ⟨b, h1, rfl⟩ := brows_get h
      simp only [needB, List.getElem?_map] at h1
      by_cases hi : i < l.length
      · rw [List.getElem?_range hi] at h1; cases h1; rfl
      · rw [List.getElem?_eq_none (by simpa using hi)] at h1; cases h1
    have hBl : (brows (needB l k)).length = l.length := by simp [brows_len, needB]
    have hkk : isR l k k = true := isR_iff.2 .base
    have hrow : (drows l)[k]? = some d.cells := by simp [drows, hd]
    clear hz hs hE hR hok hu
    generalize brows (needB l k) = B at *
    generalize linkTm l main = T at *
    generalize tmcheck T = qc at *
    obtain ⟨s0, ⟨a0, bs0⟩, ⟨k0, name0, arg0, num0, tk0, tks0, uk0, uks0, label0, place0, ks0⟩, pl0⟩ := d
    simp only at hn hT
    refine ACall.body tab_ok (ρ := 0) (N := 75) Tryd.func5 rfl rfl rfl rfl rfl ?_
    repeat' first | ((refine ⟨by rw [drows_len]; omega, fun row hr => ?_⟩; obtain rfl := Option.some.inj (hrow.symm.trans hr); conv => whnf)) | refine AW.seq ?_ | refine AW.block ?_ | (refine (_root_.id : AW _ _ _ (.region 10 _ true) _ _ → _) ?_; refine AW.draw (id := 10) tab_ok mixed [0, 1, 2, 3, 4, 5, 6, 7, 8, 9, 10, 11, 12, 13, 14, 15, 16, 17, 18, 19, 20, 21, 22, 23] (by kernel_rfl) ?_; conv => whnf) | ((first | refine AW.region tab_ok ?_ | refine AW.cond ?_ | refine AW.skip ?_ | refine AW.ret ?_ | refine AW.exit ?_); conv => whnf) | ((first | refine (c1).mono ?_ | refine (c2).mono ?_); rintro _ _ ⟨rfl, rfl⟩; conv => whnf) | ((first | refine And.intro (@rfl Val _) ?_ | refine And.intro (by decide) ?_ | refine cs (fun _ => ?_) (fun _ => ?_)) <;> conv => whnf)
    refine AW.loop (ι := LkI l k main pl0 T) (fun x => ⟨75, [(10, .c (.d (.int .i64 ((x.n : Int) - 1)))), (9, .c (.ptr 1 0)), (8, .c (.d (.sl 0 1 B))), (4, .c (.ptr 0 0)), (0, .c (.d (.sl 0 15 (drows l))))], [.var [.d (.int .i8 0), .d (.str noB), .d (.str noB), .d (.int .i64 0), .d (.int .i8 0), .d .nils, .d (.int .i8 0), .d .nils, .d (.int .i64 0), .d (.int .i64 0), .d .nils], .var (lkA main pl0 x.c)], []⟩)
      (fun x => x.n) ⟨k + 1, Nat.le_refl _, none, hT.symm, fun h => by omega⟩ 2 (fun _ => rfl) (Nat.le_of_ble_eq_true rfl) ⟨⟨by show Val.c (.d (.int .i64 (k : Int))) = Val.c (.d (.int .i64 (((k + 1 : Nat) : Int) - 1))); congr 3; omega, rfl, rfl, rfl, rfl, trivial⟩, rfl, rfl, ⟨[], rfl⟩, rfl⟩ (fun x => ?_)
    obtain ⟨n, hn', c, hc, hcs⟩ := x
    repeat' first | refine AW.seq ?_ | refine AW.block ?_ | (refine (_root_.id : AW _ _ _ (.region 10 _ true) _ _ → _) ?_; refine AW.draw (id := 10) tab_ok mixed [0, 1, 2, 3, 4, 5, 6, 7, 8, 9, 10, 11, 12, 13, 14, 15, 16, 17, 18, 19, 20, 21, 22, 23] (by kernel_rfl) ?_; conv => whnf) | ((first | refine AW.region tab_ok ?_ | refine AW.cond ?_ | refine AW.skip ?_ | refine AW.ret ?_ | refine AW.exit ?_); conv => whnf) | ((first | refine And.intro (@rfl Val _) ?_ | refine And.intro (by decide) ?_ | refine cs (fun _ => ?_) (fun _ => ?_)) <;> conv => whnf)
    rotate_left
    · rename_i h
      have := of_decide_eq_false h
      obtain rfl : n = 0 := by simp only at this; omega
      have hcs := hcs (Nat.zero_le _)
      simp only [linkF] at hc
      subst hc
      rcases c with _ | ⟨s, a, bs, p, x, y⟩
      · cases hcs
      simp only [lkT] at c3 c4 ⊢
      conv => whnf
      repeat' first | refine AW.seq ?_ | refine AW.block ?_ | (refine (_root_.id : AW _ _ _ (.region 10 _ true) _ _ → _) ?_; refine AW.draw (id := 10) tab_ok mixed [0, 1, 2, 3, 4, 5, 6, 7, 8, 9, 10, 11, 12, 13, 14, 15, 16, 17, 18, 19, 20, 21, 22, 23] (by kernel_rfl) ?_; conv => whnf) | ((first | refine AW.region tab_ok ?_ | refine AW.cond ?_ | refine AW.skip ?_ | refine AW.ret ?_ | refine AW.exit ?_); conv => whnf) | (refine (c3).mono ?_; rintro _ _ ⟨rfl, rfl⟩; conv => whnf) | ((first | refine And.intro (@rfl Val _) ?_ | refine And.intro (by decide) ?_ | refine cs (fun _ => ?_) (fun _ => ?_)) <;> conv => whnf)
      · rename_i hq
        have hq : qc ≠ 0 := bne_iff_ne.1 hq
        rw [if_neg hq, if_pos hq]
        refine ⟨?_, rfl⟩
        simp only [errV, if_neg hq]
        rfl
      · rename_i hq
        have hq : qc = 0 := by simpa using hq
        subst hq
        have c4 := c4 rfl
        repeat' first | refine AW.seq ?_ | refine AW.block ?_ | (refine (_root_.id : AW _ _ _ (.region 10 _ true) _ _ → _) ?_; refine AW.draw (id := 10) tab_ok mixed [0, 1, 2, 3, 4, 5, 6, 7, 8, 9, 10, 11, 12, 13, 14, 15, 16, 17, 18, 19, 20, 21, 22, 23] (by kernel_rfl) ?_; conv => whnf) | ((first | refine AW.region tab_ok ?_ | refine AW.cond ?_ | refine AW.skip ?_ | refine AW.ret ?_ | refine AW.exit ?_); conv => whnf) | (refine (c4).mono ?_; rintro _ _ ⟨rfl, rfl⟩; conv => whnf) | ((first | refine And.intro (@rfl Val _) ?_ | refine And.intro (by decide) ?_ | refine cs (fun _ => ?_) (fun _ => ?_)) <;> conv => whnf)
        exact ⟨rfl, rfl⟩
    rename_i h
    have := of_decide_eq_true h
    obtain ⟨i, rfl⟩ : ∃ i, n = i + 1 := ⟨n - 1, by simp only at this; omega⟩
    have ei : (((i + 1 : Nat) : Int) - 1) = (i : Int) := by omega
    have hil : i < l.length := by omega
    obtain ⟨d, hd'⟩ : ∃ d, l[i]? = some d := ⟨_, List.getElem?_eq_getElem hil⟩
    have hrow' : (drows l)[i]? = some d.cells := by simp [drows, hd']
    clear h this hr
    simp only [ei]
    refine ⟨by rw [hBl]; omega, fun row hr => ?_⟩
    obtain rfl := hB i row (by simpa using hr)
    simp only [linkF, linkS, hd'] at hc
    have hki : c = none → isR l k i = true := fun e => by
      have : ¬ i + 1 ≤ k := fun h => by rw [e] at hcs; exact absurd (hcs h) (by simp)
      obtain rfl : i = k := by omega
      exact hkk
    obtain ⟨s, ⟨a, bs⟩, ⟨q, name, arg, num, tk, tks, uk, uks, label, place, ks⟩, pl⟩ := d
    simp only [letT] at hc
    generalize isR l k i = b at *
    rcases c with _ | ⟨s', a', bs', p', x', y'⟩
    · have hki := hki rfl
      subst hki
      rw [if_pos rfl] at hc
      conv => whnf
      repeat' first | ((refine ⟨by rw [drows_len]; omega, fun row hr => ?_⟩; obtain rfl := Option.some.inj (hrow'.symm.trans hr); clear hr; conv => whnf)) | refine AW.seq ?_ | refine AW.block ?_ | (refine (_root_.id : AW _ _ _ (.region 10 _ true) _ _ → _) ?_; refine AW.draw (id := 10) tab_ok mixed [0, 1, 2, 3, 4, 5, 6, 7, 8, 9, 10, 11, 12, 13, 14, 15, 16, 17, 18, 19, 20, 21, 22, 23] (by kernel_rfl) ?_; conv => whnf) | ((first | refine AW.region tab_ok ?_ | refine AW.cond ?_ | refine AW.skip ?_ | refine AW.ret ?_ | refine AW.exit ?_); conv => whnf) | ((first | refine And.intro (@rfl Val _) ?_ | refine And.intro (by decide) ?_ | refine cs (fun _ => ?_) (fun _ => ?_)) <;> conv => whnf)
      rw [wrap64 (x := (i : Int) - 1) (by omega) (by omega)]
      exact ⟨⟨i, by omega, some (s, a, bs, pl, .node q name arg num tk tks uk uks label place ks, varT main pl0), hc, fun _ => rfl⟩, ⟨⟨rfl, rfl, rfl, rfl, rfl, trivial⟩, rfl, rfl, ⟨[], rfl⟩, rfl⟩, show i < i + 1 by omega⟩
    · conv => whnf
      repeat' first | ((refine ⟨by rw [drows_len]; omega, fun row hr => ?_⟩; obtain rfl := Option.some.inj (hrow'.symm.trans hr); clear hr; conv => whnf)) | refine AW.seq ?_ | refine AW.block ?_ | (refine (_root_.id : AW _ _ _ (.region 10 _ true) _ _ → _) ?_; refine AW.draw (id := 10) tab_ok mixed [0, 1, 2, 3, 4, 5, 6, 7, 8, 9, 10, 11, 12, 13, 14, 15, 16, 17, 18, 19, 20, 21, 22, 23] (by kernel_rfl) ?_; conv => whnf) | ((first | refine AW.region tab_ok ?_ | refine AW.cond ?_ | refine AW.skip ?_ | refine AW.ret ?_ | refine AW.exit ?_); conv => whnf) | ((first | refine And.intro (@rfl Val _) ?_ | refine And.intro (by decide) ?_ | refine cs (fun _ => ?_) (fun _ => ?_)) <;> conv => whnf)
      · rename_i hb
        rw [if_pos hb] at hc
        rw [wrap64 (x := (i : Int) - 1) (by omega) (by omega)]
        exact ⟨⟨i, by omega, some (s, a, bs, pl, .node q name arg num tk tks uk uks label place ks, lkT main pl0 (some (s', a', bs', p', x', y'))), hc, fun _ => rfl⟩, ⟨⟨rfl, rfl, rfl, rfl, rfl, trivial⟩, rfl, rfl, ⟨[], rfl⟩, rfl⟩, show i < i + 1 by omega⟩
      · rename_i hb
        rw [if_neg (by rw [hb]; decide)] at hc
        rw [wrap64 (x := (i : Int) - 1) (by omega) (by omega)]
        exact ⟨⟨i, by omega, some (s', a', bs', p', x', y'), hc, fun _ => rfl⟩, ⟨⟨rfl, rfl, rfl, rfl, rfl, trivial⟩, rfl, rfl, ⟨[], rfl⟩, rfl⟩, show i < i + 1 by omega⟩
  · have hE : linkE l main = (soundF l main).2 := if_pos hz
    have hR : linkR l main = tmZ0 := if_neg (by rw [hE]; exact hz)
    rw [hE, hR]
    clear hE hR
    generalize soundF l main = F at *
    obtain ⟨k, c, a, w⟩ := F
    simp only at c1 hz ⊢
    rw [errV, if_neg hz] at c1
    simp only [errV, if_neg hz]
    refine ACall.body tab_ok (ρ := 0) (N := 75) Tryd.func5 rfl rfl rfl rfl rfl ?_
    repeat' first | refine AW.seq ?_ | refine AW.block ?_ | (refine (_root_.id : AW _ _ _ (.region 10 _ true) _ _ → _) ?_; refine AW.draw (id := 10) tab_ok mixed [0, 1, 2, 3, 4, 5, 6, 7, 8, 9, 10, 11, 12, 13, 14, 15, 16, 17, 18, 19, 20, 21, 22, 23] (by kernel_rfl) ?_; conv => whnf) | ((first | refine AW.region tab_ok ?_ | refine AW.cond ?_ | refine AW.skip ?_ | refine AW.ret ?_ | refine AW.exit ?_); conv => whnf) | (refine (c1).mono ?_; rintro _ _ ⟨rfl, rfl⟩; conv => whnf) | ((first | refine And.intro (@rfl Val _) ?_ | refine And.intro (by decide) ?_ | refine cs (fun _ => ?_) (fun _ => ?_)) <;> conv => whnf)
    exact ⟨rfl, rfl⟩
end Go.Proofs.YthmbncehoblgpaaDoor.E

/- What is not needed makes no difference: plain facts. No conditions. -/
set_option linter.unusedVariables false
set_option linter.unusedSimpArgs false
namespace Go.Proofs.YthmbncehoblgpaaDoor.E
open Go

/-! ### Which are needed, as a list -/
noncomputable def needX (l : List Df) (k n : Nat) : List Df := match l[n]? with
  | some d => if isR l k n = true then [d] else []
  | none => []
noncomputable def needL (l : List Df) (k : Nat) : Nat → List Df
  | 0 => []
  | n + 1 => needL l k n ++ needX l k n
theorem linkF_fold (l : List Df) (k : Nat) : ∀ (n : Nat) (t : Tm), linkF l k n t = (needL l k n).foldr letT t
  | 0, t => rfl
  | n + 1, t => by
    simp only [linkF, needL, List.foldr_append, linkF_fold l k n]
    congr 1
    unfold linkS needX
    cases l[n]? with
    | none => rfl
    | some d => simp only; split <;> rfl
theorem needT_mem (l : List Df) (k : Nat) (s : ByteArray) : ∀ n, s ∈ needT l k n ↔ ∃ i, i < n ∧ isR l k i = true ∧ nameAt l i = s
  | 0 => by simp [needT]
  | n + 1 => by
    simp only [needT, List.mem_append, needT_mem l k s n]
    constructor
    · rintro (⟨i, h1, h2, h3⟩ | h)
      · exact ⟨i, by omega, h2, h3⟩
      · split at h
        · rename_i hr; simp at h; exact ⟨n, by omega, hr, h.symm⟩
        · cases h
    · rintro ⟨i, h1, h2, h3⟩
      by_cases e : i = n
      · subst e; right; rw [if_pos h2]; simp [h3]
      · exact .inl ⟨i, by omega, h2, h3⟩
theorem needL_get {l : List Df} {k i : Nat} {d : Df} (hr : isR l k i = true) (hd : l[i]? = some d) : ∀ n, i < n → (needL l k n)[(needL l k i).length]? = some d
  | 0, h => by omega
  | n + 1, h => by
    simp only [needL]
    by_cases e : i = n
    · subst e
      rw [List.getElem?_append_right (Nat.le_refl _), Nat.sub_self]
      simp [needX, hd, hr]
    · have := needL_get hr hd n (by omega)
      rw [List.getElem?_append_left (List.getElem?_eq_some_iff.1 this).1]
      exact this
theorem needL_inv {l : List Df} {k q : Nat} {d : Df} : ∀ n, (needL l k n)[q]? = some d → ∃ i, i < n ∧ isR l k i = true ∧ l[i]? = some d ∧ q = (needL l k i).length
  | 0, h => by simp [needL] at h
  | n + 1, h => by
    simp only [needL] at h
    by_cases hq : q < (needL l k n).length
    · rw [List.getElem?_append_left hq] at h
      obtain ⟨i, h1, h2⟩ := needL_inv n h
      exact ⟨i, by omega, h2⟩
    · rw [List.getElem?_append_right (by omega)] at h
      unfold needX at h
      split at h
      · rename_i e he
        split at h
        · rename_i hr
          have hz : q - (needL l k n).length = 0 := by
            cases hh : q - (needL l k n).length with
            | zero => rfl
            | succ m => rw [hh] at h; simp at h
          rw [hz] at h
          simp at h
          subst h
          exact ⟨n, by omega, hr, he, by omega⟩
        · simp at h
      · simp at h
theorem needL_mono (l : List Df) (k : Nat) {i : Nat} : ∀ {n : Nat}, i ≤ n → (needL l k i).length ≤ (needL l k n).length
  | 0, h => by
    obtain rfl : i = 0 := by omega
    exact Nat.le_refl _
  | n + 1, h => by
    by_cases e : i = n + 1
    · subst e; exact Nat.le_refl _
    · have := needL_mono l k (i := i) (n := n) (by omega)
      simp only [needL, List.length_append]
      omega
theorem needL_lt {l : List Df} {k i j : Nat} {d : Df} (hr : isR l k i = true) (hd : l[i]? = some d) (hij : i < j) : (needL l k i).length < (needL l k j).length := by
  have h1 := needL_mono l k (i := i + 1) (n := j) (by omega)
  have h2 : (needL l k (i + 1)).length = (needL l k i).length + 1 := by simp [needL, needX, hd, hr]
  omega
theorem needL_sub (l : List Df) (k : Nat) : ∀ n, ∀ d ∈ needL l k n, d ∈ l := fun n d hd => by
  obtain ⟨q, hq⟩ := List.getElem?_of_mem hd
  obtain ⟨i, _, _, h3, _⟩ := needL_inv n hq
  exact List.mem_of_getElem? h3
theorem needL_len (l : List Df) (k : Nat) : ∀ n, (needL l k n).length ≤ n
  | 0 => Nat.le_refl _
  | n + 1 => by
    have := needL_len l k n
    simp only [needL, List.length_append]
    have h : (needX l k n).length ≤ 1 := by
      unfold needX
      split
      · split <;> simp
      · simp
    omega
theorem needL_uniq {l : List Df} {k : Nat} (hu : Uniq l) (n : Nat) : Uniq (needL l k n) := fun i j d e hd he hn => by
  obtain ⟨a, _, _, h3, h4⟩ := needL_inv n hd
  obtain ⟨b, _, _, g3, g4⟩ := needL_inv n he
  have := hu a b d e h3 g3 hn
  subst this
  omega
/-- What is needed of the few is as it was. -/
theorem few_reach {l : List Df} {k i : Nat} (hk : k < l.length) (h : Reach l k i) : Reach (needL l k (k + 1)) (needL l k k).length (needL l k i).length := by
  induction h with
  | base => exact .base
  | @step i j hi s ih =>
    obtain ⟨hji, d, e, hd, he, hf⟩ := s
    have hri : isR l k i = true := isR_iff.2 hi
    have hrj : isR l k j = true := isR_iff.2 (hi.step ⟨hji, d, e, hd, he, hf⟩)
    have hik := hi.le
    exact ih.step ⟨needL_lt hrj he hji, d, e, needL_get hri hd _ (by omega), needL_get hrj he _ (by omega), hf⟩
theorem needL_all {F : List Df} {k : Nat} (h : ∀ q, q < F.length → isR F k q = true) : ∀ n, n ≤ F.length → needL F k n = F.take n
  | 0, _ => by simp [needL]
  | n + 1, hn => by
    obtain ⟨d, hd⟩ : ∃ d, F[n]? = some d := ⟨_, List.getElem?_eq_getElem (by omega)⟩
    rw [needL, needL_all h n (by omega), needX, hd, List.take_add_one, hd]
    simp [h n (by omega)]
theorem few_all {l : List Df} {k : Nat} (hk : k < l.length) : ∀ q, q < (needL l k (k + 1)).length → isR (needL l k (k + 1)) (needL l k k).length q = true := fun q hq => by
  obtain ⟨d, hd⟩ : ∃ d, (needL l k (k + 1))[q]? = some d := ⟨_, List.getElem?_eq_getElem hq⟩
  obtain ⟨i, h1, h2, h3, rfl⟩ := needL_inv _ hd
  exact isR_iff.2 (few_reach hk (isR_iff.1 h2))

/-! ### sound -/
theorem soundF_intro {l : List Df} {main : ByteArray} (hl : l.length ≤ 256) (hu : Uniq l) (hn : ∀ d ∈ l, nameF d.name = true) (he : ∀ d ∈ l, errD d = 0) {k : Nat} {d : Df} (hd : l[k]? = some d) (hm : d.name = main) : soundF l main = ((k : Int), 0, 0, noB) := by
  have hb : ∀ j, j < l.length → badAt l j = false := fun j hj => by
    obtain ⟨e, hej⟩ : ∃ e, l[j]? = some e := ⟨_, List.getElem?_eq_getElem hj⟩
    rw [badAt_nix hej, hn e (List.mem_of_getElem? hej), hu.fresh hej]
    rfl
  have hr : ∀ j, j < l.length → errAt l j = 0 := fun j hj => by
    obtain ⟨e, hej⟩ : ∃ e, l[j]? = some e := ⟨_, List.getElem?_eq_getElem hj⟩
    simp [errAt, hej, he e (List.mem_of_getElem? hej)]
  have hx := hu.nix hd
  rw [hm] at hx
  rw [soundF_end (by omega) hb hr, if_neg (by omega), hx]
  congr 1
  omega
theorem soundF_names {l : List Df} {main : ByteArray} (h : (soundF l main).2.1 = 0) : ∀ d ∈ l, nameF d.name = true := by
  obtain ⟨hl, hu, _⟩ := soundF_ok h
  intro d hd
  cases hb : nameF d.name with
  | true => rfl
  | false =>
  exfalso
  obtain ⟨j, hj⟩ := List.getElem?_of_mem hd
  have hbad : badAt l j = true := by rw [badAt_nix hj, hb]; rfl
  clear hb hd
  have hx : ∃ (i : Nat) (e : Df), l[i]? = some e ∧ badAt l i = true ∧ ∀ q, q < i → badAt l q = false := by
    induction j using Nat.strongRecOn generalizing d with
    | _ j ih =>
      by_cases hq : ∀ q, q < j → badAt l q = false
      · exact ⟨j, d, hj, hbad, hq⟩
      · simp only [Classical.not_forall] at hq
        obtain ⟨q, hq1, hq2⟩ := hq
        have hq2 : badAt l q = true := by simpa using hq2
        obtain ⟨e, he⟩ : ∃ e, l[q]? = some e := ⟨_, List.getElem?_eq_getElem (by have := (List.getElem?_eq_some_iff.1 hj).1; omega)⟩
        exact ih q hq1 e he hq2
  obtain ⟨i, e, h1, h2, h3⟩ := hx
  rw [soundF_bad (by omega) h1 h2 h3] at h
  cases h

/-! ### The few -/
def keepF (need : List ByteArray) (main : ByteArray) (d : Df) : Bool := decide (d.name = main) || inF need d.name
theorem keep_is {l : List Df} {k : Nat} {d0 : Df} (hu : Uniq l) (hk : l[k]? = some d0) {j : Nat} {d : Df} (hd : l[j]? = some d) : keepF (needT l k k) d0.name d = isR l k j := by
  rw [Bool.eq_iff_iff, keepF, Bool.or_eq_true, decide_eq_true_eq, inF_iff, needT_mem]
  constructor
  · rintro (h | ⟨i, h1, h2, h3⟩)
    · obtain rfl := hu j k d d0 hd hk h
      exact isR_iff.2 .base
    · obtain ⟨e, he⟩ : ∃ e, l[i]? = some e := ⟨_, List.getElem?_eq_getElem (by have := (List.getElem?_eq_some_iff.1 hk).1; omega)⟩
      rw [nameAt, he] at h3
      obtain rfl := hu i j e d he hd h3
      exact h2
  · intro h
    have hle := (isR_iff.1 h).le
    by_cases e : j = k
    · subst e; rw [hd] at hk; cases hk; exact .inl rfl
    · exact .inr ⟨j, by omega, h, by rw [nameAt, hd]⟩
theorem few_take {l : List Df} {k : Nat} {d0 : Df} (hu : Uniq l) (hk : l[k]? = some d0) : ∀ n, n ≤ l.length → (l.take n).filter (keepF (needT l k k) d0.name) = needL l k n
  | 0, _ => by simp [needL]
  | n + 1, hn => by
    obtain ⟨d, hd⟩ : ∃ d, l[n]? = some d := ⟨_, List.getElem?_eq_getElem (by omega)⟩
    rw [take_snoc hd, List.filter_append, few_take hu hk n (by omega), needL, needX, hd]
    congr 1
    have := keep_is hu hk hd
    cases hb : isR l k n <;> rw [hb] at this <;> simp [this]
theorem needL_past {l : List Df} {k : Nat} : ∀ n, k + 1 ≤ n → needL l k n = needL l k (k + 1)
  | 0, h => by omega
  | n + 1, h => by
    by_cases e : n + 1 = k + 1
    · rw [e]
    · rw [needL, needL_past n (by omega), needX]
      split
      · rename_i d hd
        rw [if_neg (fun hr => by have := (isR_iff.1 hr).le; omega), List.append_nil]
      · rw [List.append_nil]
theorem few_is {l : List Df} {k : Nat} {d0 : Df} (hu : Uniq l) (hk : l[k]? = some d0) : l.filter (keepF (needT l k k) d0.name) = needL l k (k + 1) := by
  have h := few_take hu hk l.length (Nat.le_refl _)
  rw [List.take_length] at h
  rw [h, needL_past _ (by have := (List.getElem?_eq_some_iff.1 hk).1; omega)]
/-- The few make the same term. -/
theorem few_link {l : List Df} {main : ByteArray} (hz : (linkE l main).1 = 0) : ∀ F, F = l.filter (keepF (needsN l main) main) → linkE F main = (0, 0, noB) ∧ linkR F main = linkR l main ∧ (∀ d ∈ F, d ∈ l) ∧ F.length ≤ 256 := by
  rintro F rfl
  have hs0 : (soundF l main).2.1 = 0 := by
    refine Classical.byContradiction fun h => ?_
    rw [linkE, if_pos h] at hz
    exact h hz
  obtain ⟨hl, hu, he, k, d, hd, hn, hs⟩ := soundF_ok hs0
  have hnm := soundF_names hs0
  have hk := (List.getElem?_eq_some_iff.1 hd).1
  have hN : needsN l main = needT l k k := by rw [needsN, if_pos (show needsE l main = 0 from hs0), hs]; rfl
  have hF : l.filter (keepF (needsN l main) main) = needL l k (k + 1) := by rw [hN, ← hn]; exact few_is hu hd
  have hkk : isR l k k = true := isR_iff.2 .base
  have hFl : (needL l k (k + 1)).length = (needL l k k).length + 1 := by simp [needL, needX, hd, hkk]
  have hsub := needL_sub l k (k + 1)
  have hlen := needL_len l k (k + 1)
  have hFd := needL_get hkk hd (k + 1) (by omega)
  have hsF : soundF (needL l k (k + 1)) main = (((needL l k k).length : Int), 0, 0, noB) :=
    soundF_intro (by omega) (needL_uniq hu _) (fun e h => hnm e (hsub e h)) (fun e h => he e (hsub e h)) hFd hn
  have hT : linkTm l main = (needL l k (k + 1)).foldr letT (varT main d.pl) := by
    simp only [linkTm, hs, Int.toNat_natCast, hd, linkF_fold]
  have hTF : linkTm (needL l k (k + 1)) main = linkTm l main := by
    rw [hT]
    simp only [linkTm, hsF, Int.toNat_natCast, hFd, linkF_fold]
    rw [needL_all (few_all hk) _ (by omega), List.take_of_length_le (by omega)]
  have hc : tmcheck (linkTm l main) = 0 := by
    refine Classical.byContradiction fun h => ?_
    rw [linkE, if_neg (by simp [hs0]), if_pos h] at hz
    exact h hz
  have hE : linkE (needL l k (k + 1)) main = (0, 0, noB) := by
    rw [linkE, if_neg (by rw [hsF]; simp), hTF, if_neg (by simp [hc])]
  rw [hF]
  refine ⟨hE, ?_, hsub, by omega⟩
  rw [linkR, linkR, if_pos (by rw [hE]), if_pos hz, hTF]
/-- What is needed has what it needs. -/
theorem needs_trans {l : List Df} {main : ByteArray} (hz : needsE l main = 0) {name : ByteArray} (hn : name ∈ needsN l main) : needsE l name = 0 ∧ (∀ s ∈ needsN l name, s ∈ needsN l main) := by
  obtain ⟨hl, hu, he, k, d, hd, hm, hs⟩ := soundF_ok hz
  have hnm := soundF_names hz
  have hN : needsN l main = needT l k k := by rw [needsN, if_pos hz, hs]; rfl
  rw [hN, needT_mem] at hn
  obtain ⟨j, h1, h2, h3⟩ := hn
  have hk := (List.getElem?_eq_some_iff.1 hd).1
  obtain ⟨e, hej⟩ : ∃ e, l[j]? = some e := ⟨_, List.getElem?_eq_getElem (by omega)⟩
  rw [nameAt, hej] at h3
  have hs2 := soundF_intro (main := name) hl hu hnm he hej h3
  have hz2 : needsE l name = 0 := by rw [needsE, hs2]
  refine ⟨hz2, fun s hmem => ?_⟩
  have hN2 : needsN l name = needT l j j := by rw [needsN, if_pos hz2, hs2]; rfl
  rw [hN2, needT_mem] at hmem
  obtain ⟨i, g1, g2, g3⟩ := hmem
  rw [hN, needT_mem]
  exact ⟨i, by omega, isR_iff.2 ((isR_iff.1 h2).trans (isR_iff.1 g2)), g3⟩
theorem needsN_len {l : List Df} {main : ByteArray} (hz : needsE l main = 0) : (needsN l main).length < l.length ∧ l.length ≤ 256 := by
  obtain ⟨hl, hu, he, k, d, hd, hm, hs⟩ := soundF_ok hz
  have hN : needsN l main = needT l k k := by rw [needsN, if_pos hz, hs]; rfl
  have hk := (List.getElem?_eq_some_iff.1 hd).1
  have := needT_len l k k
  rw [hN]
  omega
theorem needsN_len2 (l : List Df) (main : ByteArray) : (needsN l main).length ≤ 256 := by
  by_cases hz : needsE l main = 0
  · have := needsN_len hz; omega
  · rw [needsN, if_neg hz]; simp
end Go.Proofs.YthmbncehoblgpaaDoor.E

/- errors.Is of an *api.Fault and a number: Go's own text walked; as a call over the engine's data. No conditions. -/
set_option linter.unusedVariables false
set_option linter.unusedSimpArgs false
namespace Go.Proofs.YthmbncehoblgpaaDoor.E
open Go Go.RowKit Go.Extern.Stop Go.Stop Go.Extern

end Go.Proofs.YthmbncehoblgpaaDoor.E

/- Walks: faults told, places, the law DefsLink. No conditions. -/
set_option linter.unusedVariables false
set_option linter.unusedSimpArgs false
namespace Go.Proofs.YthmbncehoblgpaaDoor.E
open Go

theorem linkR_check (l : List Df) (main : ByteArray) (h : (linkE l main).1 = 0) : tmcheck (linkR l main) = 0 := by
  rw [linkR, if_pos h]
  unfold linkE at h
  split at h
  · rename_i h1; exact absurd h h1
  · split at h
    · rename_i h1; exact absurd h h1
    · rename_i h1; simpa using h1
end Go.Proofs.YthmbncehoblgpaaDoor.E

/- Small facts of terms. No conditions. -/
set_option linter.unusedVariables false
set_option linter.unusedSimpArgs false
namespace Go.Proofs.YthmbncehoblgpaaDoor.E
open Go

theorem tmright_own {k name arg num tk tks uk uks label place ks} (h : tmright (.node k name arg num tk tks uk uks label place ks) = true) : (typeK k = true → tcheck (.node tk tks) = 0) ∧ (toK k = true → tcheck (.node uk uks) = 0) := by
  simp only [tmright, ownRight, Bool.and_eq_true, Bool.or_eq_true, Bool.not_eq_true', decide_eq_true_eq] at h
  refine ⟨fun q => ?_, fun q => ?_⟩
  · rcases h.1.1.1.2 with e | e
    · rw [q] at e; cases e
    · exact e
  · rcases h.1.1.2 with e | e
    · rw [q] at e; cases e
    · exact e
end Go.Proofs.YthmbncehoblgpaaDoor.E
