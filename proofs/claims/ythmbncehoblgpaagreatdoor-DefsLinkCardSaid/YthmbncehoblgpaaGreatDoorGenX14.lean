/- Texts, merged: Df8, As3, Df9. No conditions. -/
import Derived.Test.YthmbncehoblgpaaGreatDoorGenX12
import Derived.Test.YthmbncehoblgpaaGreatDoorGenX13
import Derived.Test.YthmbncehoblgpaaGreatDoorGenX5
/- Walks: defs.Link, the document's. No conditions. -/
set_option linter.unusedVariables false
set_option linter.unusedSimpArgs false
namespace Go.Proofs.YthmbncehoblgpaaGreatDoor.E
open Go

def DfOk (d : Df) : Prop := TyOk d.ty ∧ TmOk d.tm
def letT : Df → Tm → Tm
  | ⟨s, .node a bs, x, pl⟩, t => .node 7 s noB 0 a bs 0 [] 0 pl [x, t]
def varT (s : ByteArray) (pl : Int) : Tm := .node 0 s noB 0 0 [] 0 [] 0 pl []
def tm0 : Tm := .node 0 noB noB 0 0 [] 0 [] 0 0 []
noncomputable def linkS (l : List Df) (k n : Nat) (t : Tm) : Tm := match l[n]? with
  | some d => if isR l k n = true then letT d t else t
  | none => t
noncomputable def linkF (l : List Df) (k : Nat) : Nat → Tm → Tm
  | 0, t => t
  | n + 1, t => linkF l k n (linkS l k n t)
theorem letT_ok {d : Df} {t : Tm} (hd : DfOk d) (ht : TmOk t) : TmOk (letT d t) := by
  obtain ⟨s, ⟨a, bs⟩, x, pl⟩ := d
  exact .node hd.1 (.node (by simp) (by simp)) (by simp) (by simp; exact ⟨hd.2, ht⟩)
theorem linkF_ok {l : List Df} {k : Nat} (hl : ∀ d ∈ l, DfOk d) : ∀ (n : Nat) (t : Tm), TmOk t → TmOk (linkF l k n t)
  | 0, t, h => h
  | n + 1, t, h => by
    refine linkF_ok hl n _ ?_
    unfold linkS
    split
    · rename_i d hd
      split
      · exact letT_ok (hl d (List.mem_of_getElem? hd)) h
      · exact h
    · exact h
theorem varT_ok (s : ByteArray) (pl : Int) : TmOk (varT s pl) := .node (.node (by simp) (by simp)) (.node (by simp) (by simp)) (by simp) (by simp)
noncomputable def linkTm (l : List Df) (main : ByteArray) : Tm := match l[(soundF l main).1.toNat]? with
  | some d => linkF l (soundF l main).1.toNat ((soundF l main).1.toNat + 1) (varT main d.pl)
  | none => tm0
noncomputable def linkE (l : List Df) (main : ByteArray) : Fl := if (soundF l main).2.1 ≠ 0 then (soundF l main).2 else if tmcheck (linkTm l main) ≠ 0 then (tmcheck (linkTm l main), 0, noB) else (0, 0, noB)
noncomputable def linkR (l : List Df) (main : ByteArray) : Tm := if (linkE l main).1 = 0 then linkTm l main else tm0
theorem linkTm_ok {l : List Df} (hl : ∀ d ∈ l, DfOk d) (main : ByteArray) : TmOk (linkTm l main) := by
  unfold linkTm
  split
  · exact linkF_ok hl _ _ (varT_ok _ _)
  · exact varT_ok _ _

abbrev LkC := Option (ByteArray × Int × List Ty × Int × Tm × Tm)
def lkT (main : ByteArray) (pl : Int) : LkC → Tm
  | none => varT main pl
  | some (s, a, bs, p, x, y) => .node 7 s noB 0 a bs 0 [] 0 p [x, y]
def lkA (main : ByteArray) (pl : Int) : LkC → List AV
  | none => [.d (.int .i8 0), .d (.str main), .d (.str noB), .d (.int .i64 0), .d (.int .i8 0), .d .nils, .d (.int .i8 0), .d .nils, .d (.int .i64 0), .d (.int .i64 pl), .d .nils]
  | some (s, a, bs, p, x, y) => [.d (.int .i8 7), .d (.str s), .d (.str noB), .d (.int .i64 0), .d (.int .i8 a), .d (.sl 0 2 (Ty.rows bs)), .d (.int .i8 0), .d .nils, .d (.int .i64 0), .d (.int .i64 p), .d (.sl 0 11 (Tm.rows [x, y]))]
structure LkI (l : List Df) (k : Nat) (main : ByteArray) (pl : Int) (T : Tm) where
  n : Nat
  hn : n ≤ k + 1
  c : LkC
  h : linkF l k n (lkT main pl c) = T
  hc : n ≤ k → c.isSome = true
set_option maxRecDepth 10000 in
theorem Link_call (l : List Df) (main : ByteArray) (hok : ∀ d ∈ l, DfOk d) : ACall Tryz.prog 8 [.c (.d (.sl 0 15 (drows l))), .c (.d (.str main))] [] (fun o σ => o = .ret (.tup [(linkR l main).val, .c (.d (errV (linkE l main)))]) ∧ σ = []) := by
  have c1 := sound_call l main
  by_cases hz : (soundF l main).2.1 = 0
  · obtain ⟨hl, hu, _, k, d, hd, hn, hs⟩ := soundF_ok hz
    have hk := (List.getElem?_eq_some_iff.1 hd).1
    have hT : linkTm l main = linkF l k (k + 1) (varT main d.pl) := by
      simp only [linkTm, hs, Int.toNat_natCast, hd]
    have hE : linkE l main = if tmcheck (linkTm l main) ≠ 0 then (tmcheck (linkTm l main), 0, noB) else (0, 0, noB) := by rw [linkE, if_neg (by simp [hz])]
    have hR : linkR l main = if tmcheck (linkTm l main) = 0 then linkTm l main else tm0 := by
      unfold linkR
      rw [hE]
      by_cases h : tmcheck (linkTm l main) = 0 <;> simp [h]
    rw [hE, hR]
    have c3 := tmCheck_call (linkTm l main)
    have c4 : tmcheck (linkTm l main) = 0 → ACall Tryz.prog 20 [(linkTm l main).val] [] (fun o σ => o = .ret (linkTm l main).val ∧ σ = []) := fun h => dcopied_call _ (fine2_of _ (linkTm_ok hok main) (tmcheck_ok h).2)
    rw [hs] at c1
    have c2 := needed_call l k hk hl hu
    have hB : ∀ (i : Nat) row, (brows (needB l k))[i]? = some row → row = [.bool (isR l k i)] := fun i row h => by
      obtain ⟨b, h1, rfl⟩ := brows_get h
      simp only [needB, List.getElem?_map] at h1
      by_cases hi : i < l.length
      · rw [List.getElem?_range hi] at h1; cases h1; rfl
      · rw [List.getElem?_eq_none (by simpa using hi)] at h1; cases h1
    have hBl : (brows (needB l k)).length = l.length := by simp [brows_len, needB]
    have hkk : isR l k k = true := isR_iff.2 .base
    have hrow : (drows l)[k]? = some d.cells := by simp [drows, hd]
    clear hz hs hE hR hok hu
    generalize brows (needB l k) = B at *
    generalize linkTm l main = T at *
    generalize tmcheck T = qc at *
    obtain ⟨s0, ⟨a0, bs0⟩, ⟨k0, name0, arg0, num0, tk0, tks0, uk0, uks0, label0, place0, ks0⟩, pl0⟩ := d
    simp only at hn hT
    refine ACall.body tab_ok (ρ := 0) (N := 75) Tryz.func8 rfl rfl rfl rfl rfl ?_
    repeat' first | ((refine ⟨by rw [drows_len]; omega, fun row hr => ?_⟩; obtain rfl := Option.some.inj (hrow.symm.trans hr); conv => whnf)) | refine AW.seq ?_ | refine AW.block ?_ | (refine (_root_.id : AW _ _ _ (.region 10 _ true) _ _ → _) ?_; refine AW.draw (id := 10) tab_ok mixed [0, 1, 2, 3, 4, 5, 6, 7, 8, 9, 10, 11, 12, 13, 14, 15, 16, 17, 18, 19, 20, 21, 22, 23] (by kernel_rfl) ?_; conv => whnf) | ((first | refine AW.region tab_ok ?_ | refine AW.cond ?_ | refine AW.skip ?_ | refine AW.ret ?_ | refine AW.exit ?_); conv => whnf) | ((first | refine (c1).mono ?_ | refine (c2).mono ?_); rintro _ _ ⟨rfl, rfl⟩; conv => whnf) | ((first | refine And.intro (@rfl Val _) ?_ | refine And.intro (by decide) ?_ | refine cs (fun _ => ?_) (fun _ => ?_)) <;> conv => whnf)
    refine AW.loop (ι := LkI l k main pl0 T) (fun x => ⟨75, [(10, .c (.d (.int .i64 ((x.n : Int) - 1)))), (9, .c (.ptr 1 0)), (8, .c (.d (.sl 0 1 B))), (4, .c (.ptr 0 0)), (0, .c (.d (.sl 0 15 (drows l))))], [.var [.d (.int .i8 0), .d (.str noB), .d (.str noB), .d (.int .i64 0), .d (.int .i8 0), .d .nils, .d (.int .i8 0), .d .nils, .d (.int .i64 0), .d (.int .i64 0), .d .nils], .var (lkA main pl0 x.c)], []⟩)
      (fun x => x.n) ⟨k + 1, Nat.le_refl _, none, hT.symm, fun h => by omega⟩ 2 (fun _ => rfl) (Nat.le_of_ble_eq_true rfl) ⟨⟨by show Val.c (.d (.int .i64 (k : Int))) = Val.c (.d (.int .i64 (((k + 1 : Nat) : Int) - 1))); congr 3; omega, rfl, rfl, rfl, rfl, trivial⟩, rfl, rfl, ⟨[], rfl⟩, rfl⟩ (fun x => ?_)
    obtain ⟨n, hn', c, hc, hcs⟩ := x
    repeat' first | refine AW.seq ?_ | refine AW.block ?_ | (refine (_root_.id : AW _ _ _ (.region 10 _ true) _ _ → _) ?_; refine AW.draw (id := 10) tab_ok mixed [0, 1, 2, 3, 4, 5, 6, 7, 8, 9, 10, 11, 12, 13, 14, 15, 16, 17, 18, 19, 20, 21, 22, 23] (by kernel_rfl) ?_; conv => whnf) | ((first | refine AW.region tab_ok ?_ | refine AW.cond ?_ | refine AW.skip ?_ | refine AW.ret ?_ | refine AW.exit ?_); conv => whnf) | ((first | refine And.intro (@rfl Val _) ?_ | refine And.intro (by decide) ?_ | refine cs (fun _ => ?_) (fun _ => ?_)) <;> conv => whnf)
    rotate_left
    · rename_i h
      have := of_decide_eq_false h
      obtain rfl : n = 0 := by simp only at this; omega
      have hcs := hcs (Nat.zero_le _)
      simp only [linkF] at hc
      subst hc
      rcases c with _ | ⟨s, a, bs, p, x, y⟩
      · cases hcs
      simp only [lkT] at c3 c4 ⊢
      conv => whnf
      repeat' first | refine AW.seq ?_ | refine AW.block ?_ | (refine (_root_.id : AW _ _ _ (.region 10 _ true) _ _ → _) ?_; refine AW.draw (id := 10) tab_ok mixed [0, 1, 2, 3, 4, 5, 6, 7, 8, 9, 10, 11, 12, 13, 14, 15, 16, 17, 18, 19, 20, 21, 22, 23] (by kernel_rfl) ?_; conv => whnf) | ((first | refine AW.region tab_ok ?_ | refine AW.cond ?_ | refine AW.skip ?_ | refine AW.ret ?_ | refine AW.exit ?_); conv => whnf) | (refine (c3).mono ?_; rintro _ _ ⟨rfl, rfl⟩; conv => whnf) | ((first | refine And.intro (@rfl Val _) ?_ | refine And.intro (by decide) ?_ | refine cs (fun _ => ?_) (fun _ => ?_)) <;> conv => whnf)
      · rename_i hq
        have hq : qc ≠ 0 := bne_iff_ne.1 hq
        rw [if_neg hq, if_pos hq]
        refine ⟨?_, rfl⟩
        simp only [errV, if_neg hq]
        rfl
      · rename_i hq
        have hq : qc = 0 := by simpa using hq
        subst hq
        have c4 := c4 rfl
        repeat' first | refine AW.seq ?_ | refine AW.block ?_ | (refine (_root_.id : AW _ _ _ (.region 10 _ true) _ _ → _) ?_; refine AW.draw (id := 10) tab_ok mixed [0, 1, 2, 3, 4, 5, 6, 7, 8, 9, 10, 11, 12, 13, 14, 15, 16, 17, 18, 19, 20, 21, 22, 23] (by kernel_rfl) ?_; conv => whnf) | ((first | refine AW.region tab_ok ?_ | refine AW.cond ?_ | refine AW.skip ?_ | refine AW.ret ?_ | refine AW.exit ?_); conv => whnf) | (refine (c4).mono ?_; rintro _ _ ⟨rfl, rfl⟩; conv => whnf) | ((first | refine And.intro (@rfl Val _) ?_ | refine And.intro (by decide) ?_ | refine cs (fun _ => ?_) (fun _ => ?_)) <;> conv => whnf)
        exact ⟨rfl, rfl⟩
    rename_i h
    have := of_decide_eq_true h
    obtain ⟨i, rfl⟩ : ∃ i, n = i + 1 := ⟨n - 1, by simp only at this; omega⟩
    have ei : (((i + 1 : Nat) : Int) - 1) = (i : Int) := by omega
    have hil : i < l.length := by omega
    obtain ⟨d, hd'⟩ : ∃ d, l[i]? = some d := ⟨_, List.getElem?_eq_getElem hil⟩
    have hrow' : (drows l)[i]? = some d.cells := by simp [drows, hd']
    clear h this hr
    simp only [ei]
    refine ⟨by rw [hBl]; omega, fun row hr => ?_⟩
    obtain rfl := hB i row (by simpa using hr)
    simp only [linkF, linkS, hd'] at hc
    have hki : c = none → isR l k i = true := fun e => by
      have : ¬ i + 1 ≤ k := fun h => by rw [e] at hcs; exact absurd (hcs h) (by simp)
      obtain rfl : i = k := by omega
      exact hkk
    obtain ⟨s, ⟨a, bs⟩, ⟨q, name, arg, num, tk, tks, uk, uks, label, place, ks⟩, pl⟩ := d
    simp only [letT] at hc
    generalize isR l k i = b at *
    rcases c with _ | ⟨s', a', bs', p', x', y'⟩
    · have hki := hki rfl
      subst hki
      rw [if_pos rfl] at hc
      conv => whnf
      repeat' first | ((refine ⟨by rw [drows_len]; omega, fun row hr => ?_⟩; obtain rfl := Option.some.inj (hrow'.symm.trans hr); clear hr; conv => whnf)) | refine AW.seq ?_ | refine AW.block ?_ | (refine (_root_.id : AW _ _ _ (.region 10 _ true) _ _ → _) ?_; refine AW.draw (id := 10) tab_ok mixed [0, 1, 2, 3, 4, 5, 6, 7, 8, 9, 10, 11, 12, 13, 14, 15, 16, 17, 18, 19, 20, 21, 22, 23] (by kernel_rfl) ?_; conv => whnf) | ((first | refine AW.region tab_ok ?_ | refine AW.cond ?_ | refine AW.skip ?_ | refine AW.ret ?_ | refine AW.exit ?_); conv => whnf) | ((first | refine And.intro (@rfl Val _) ?_ | refine And.intro (by decide) ?_ | refine cs (fun _ => ?_) (fun _ => ?_)) <;> conv => whnf)
      rw [wrap64 (x := (i : Int) - 1) (by omega) (by omega)]
      exact ⟨⟨i, by omega, some (s, a, bs, pl, .node q name arg num tk tks uk uks label place ks, varT main pl0), hc, fun _ => rfl⟩, ⟨⟨rfl, rfl, rfl, rfl, rfl, trivial⟩, rfl, rfl, ⟨[], rfl⟩, rfl⟩, show i < i + 1 by omega⟩
    · conv => whnf
      repeat' first | ((refine ⟨by rw [drows_len]; omega, fun row hr => ?_⟩; obtain rfl := Option.some.inj (hrow'.symm.trans hr); clear hr; conv => whnf)) | refine AW.seq ?_ | refine AW.block ?_ | (refine (_root_.id : AW _ _ _ (.region 10 _ true) _ _ → _) ?_; refine AW.draw (id := 10) tab_ok mixed [0, 1, 2, 3, 4, 5, 6, 7, 8, 9, 10, 11, 12, 13, 14, 15, 16, 17, 18, 19, 20, 21, 22, 23] (by kernel_rfl) ?_; conv => whnf) | ((first | refine AW.region tab_ok ?_ | refine AW.cond ?_ | refine AW.skip ?_ | refine AW.ret ?_ | refine AW.exit ?_); conv => whnf) | ((first | refine And.intro (@rfl Val _) ?_ | refine And.intro (by decide) ?_ | refine cs (fun _ => ?_) (fun _ => ?_)) <;> conv => whnf)
      · rename_i hb
        rw [if_pos hb] at hc
        rw [wrap64 (x := (i : Int) - 1) (by omega) (by omega)]
        exact ⟨⟨i, by omega, some (s, a, bs, pl, .node q name arg num tk tks uk uks label place ks, lkT main pl0 (some (s', a', bs', p', x', y'))), hc, fun _ => rfl⟩, ⟨⟨rfl, rfl, rfl, rfl, rfl, trivial⟩, rfl, rfl, ⟨[], rfl⟩, rfl⟩, show i < i + 1 by omega⟩
      · rename_i hb
        rw [if_neg (by rw [hb]; decide)] at hc
        rw [wrap64 (x := (i : Int) - 1) (by omega) (by omega)]
        exact ⟨⟨i, by omega, some (s', a', bs', p', x', y'), hc, fun _ => rfl⟩, ⟨⟨rfl, rfl, rfl, rfl, rfl, trivial⟩, rfl, rfl, ⟨[], rfl⟩, rfl⟩, show i < i + 1 by omega⟩
  · have hE : linkE l main = (soundF l main).2 := if_pos hz
    have hR : linkR l main = tm0 := if_neg (by rw [hE]; exact hz)
    rw [hE, hR]
    clear hE hR
    generalize soundF l main = F at *
    obtain ⟨k, c, a, w⟩ := F
    simp only at c1 hz ⊢
    rw [errV, if_neg hz] at c1
    simp only [errV, if_neg hz]
    refine ACall.body tab_ok (ρ := 0) (N := 75) Tryz.func8 rfl rfl rfl rfl rfl ?_
    repeat' first | refine AW.seq ?_ | refine AW.block ?_ | (refine (_root_.id : AW _ _ _ (.region 10 _ true) _ _ → _) ?_; refine AW.draw (id := 10) tab_ok mixed [0, 1, 2, 3, 4, 5, 6, 7, 8, 9, 10, 11, 12, 13, 14, 15, 16, 17, 18, 19, 20, 21, 22, 23] (by kernel_rfl) ?_; conv => whnf) | ((first | refine AW.region tab_ok ?_ | refine AW.cond ?_ | refine AW.skip ?_ | refine AW.ret ?_ | refine AW.exit ?_); conv => whnf) | (refine (c1).mono ?_; rintro _ _ ⟨rfl, rfl⟩; conv => whnf) | ((first | refine And.intro (@rfl Val _) ?_ | refine And.intro (by decide) ?_ | refine cs (fun _ => ?_) (fun _ => ?_)) <;> conv => whnf)
    exact ⟨rfl, rfl⟩
set_option maxRecDepth 10000 in
theorem rLink_call (l : List Df) (main : ByteArray) (hok : ∀ d ∈ l, DfOk d) : ACall Tryz.prog 9 [.c (.d (.sl 0 15 (drows l))), .c (.d (.str main))] [] (fun o σ => o = .ret (.tup [(linkR l main).val, fltV (linkE l main)]) ∧ σ = []) := by
  have c1 := rsound_call l main
  by_cases hz : (soundF l main).2.1 = 0
  · obtain ⟨hl, hu, _, k, d, hd, hn, hs⟩ := soundF_ok hz
    have hk := (List.getElem?_eq_some_iff.1 hd).1
    have hT : linkTm l main = linkF l k (k + 1) (varT main d.pl) := by
      simp only [linkTm, hs, Int.toNat_natCast, hd]
    have hE : linkE l main = if tmcheck (linkTm l main) ≠ 0 then (tmcheck (linkTm l main), 0, noB) else (0, 0, noB) := by rw [linkE, if_neg (by simp [hz])]
    have hR : linkR l main = if tmcheck (linkTm l main) = 0 then linkTm l main else tm0 := by
      unfold linkR
      rw [hE]
      by_cases h : tmcheck (linkTm l main) = 0 <;> simp [h]
    rw [hE, hR]
    have c3 := rtmCheck_call (linkTm l main)
    rw [hs] at c1
    unfold fltV at c1
    have c2 := rneeded_call l k hk hl
    have hB : ∀ (i : Nat) row, (brows (needB l k))[i]? = some row → row = [.bool (isR l k i)] := fun i row h => by
      obtain ⟨b, h1, rfl⟩ := brows_get h
      simp only [needB, List.getElem?_map] at h1
      by_cases hi : i < l.length
      · rw [List.getElem?_range hi] at h1; cases h1; rfl
      · rw [List.getElem?_eq_none (by simpa using hi)] at h1; cases h1
    have hBl : (brows (needB l k)).length = l.length := by simp [brows_len, needB]
    have hkk : isR l k k = true := isR_iff.2 .base
    have hrow : (drows l)[k]? = some d.cells := by simp [drows, hd]
    clear hz hs hE hR hok hu
    generalize brows (needB l k) = B at *
    generalize linkTm l main = T at *
    generalize tmcheck T = qc at *
    obtain ⟨s0, ⟨a0, bs0⟩, ⟨k0, name0, arg0, num0, tk0, tks0, uk0, uks0, label0, place0, ks0⟩, pl0⟩ := d
    simp only at hn hT
    refine ACall.body tab_ok (ρ := 0) (N := 74) Tryz.func9 rfl rfl rfl rfl rfl ?_
    repeat' first | ((refine ⟨by rw [drows_len]; omega, fun row hr => ?_⟩; obtain rfl := Option.some.inj (hrow.symm.trans hr); conv => whnf)) | refine AW.seq ?_ | refine AW.block ?_ | (refine (_root_.id : AW _ _ _ (.region 3 _ true) _ _ → _) ?_; refine AW.draw (id := 3) tab_ok mixed [0, 1, 2, 3] (by kernel_rfl) ?_; conv => whnf) | (refine (_root_.id : AW _ _ _ (.region 10 _ true) _ _ → _) ?_; refine AW.draw (id := 10) tab_ok mixed [0, 1, 2, 3, 4, 5, 6, 7, 8, 9, 10, 11, 12, 13, 14, 15, 16, 17, 18, 19, 20, 21, 22, 23] (by kernel_rfl) ?_; conv => whnf) | ((first | refine AW.region tab_ok ?_ | refine AW.cond ?_ | refine AW.skip ?_ | refine AW.ret ?_ | refine AW.exit ?_); conv => whnf) | ((first | refine (c1).mono ?_ | refine (c2).mono ?_); rintro _ _ ⟨rfl, rfl⟩; conv => whnf) | ((first | refine And.intro (@rfl Val _) ?_ | refine And.intro (by decide) ?_ | refine cs (fun _ => ?_) (fun _ => ?_)) <;> conv => whnf)
    refine AW.loop (ι := LkI l k main pl0 T) (fun x => ⟨74, [(10, .c (.d (.int .i64 ((x.n : Int) - 1)))), (9, .c (.ptr 3 0)), (8, .c (.d (.sl 0 1 B))), (5, .c (.ptr 1 0)), (4, .c (.ptr 0 0)), (0, .c (.d (.sl 0 15 (drows l))))], [.var [.d (.int .i8 0), .d (.str noB), .d (.str noB), .d (.int .i64 0), .d (.int .i8 0), .d .nils, .d (.int .i8 0), .d .nils, .d (.int .i64 0), .d (.int .i64 0), .d .nils], .var [.d (.int .i64 0), .d (.int .i64 0), .d (.str noB)], .var [.d (.int .i64 0), .d (.int .i64 0), .d (.str noB)], .var (lkA main pl0 x.c)], []⟩)
      (fun x => x.n) ⟨k + 1, Nat.le_refl _, none, hT.symm, fun h => by omega⟩ 4 (fun _ => rfl) (Nat.le_of_ble_eq_true rfl) ⟨⟨by show Val.c (.d (.int .i64 (k : Int))) = Val.c (.d (.int .i64 (((k + 1 : Nat) : Int) - 1))); congr 3; omega, rfl, rfl, rfl, rfl, rfl, trivial⟩, rfl, rfl, ⟨[], rfl⟩, rfl⟩ (fun x => ?_)
    obtain ⟨n, hn', c, hc, hcs⟩ := x
    repeat' first | refine AW.seq ?_ | refine AW.block ?_ | (refine (_root_.id : AW _ _ _ (.region 3 _ true) _ _ → _) ?_; refine AW.draw (id := 3) tab_ok mixed [0, 1, 2, 3] (by kernel_rfl) ?_; conv => whnf) | (refine (_root_.id : AW _ _ _ (.region 10 _ true) _ _ → _) ?_; refine AW.draw (id := 10) tab_ok mixed [0, 1, 2, 3, 4, 5, 6, 7, 8, 9, 10, 11, 12, 13, 14, 15, 16, 17, 18, 19, 20, 21, 22, 23] (by kernel_rfl) ?_; conv => whnf) | ((first | refine AW.region tab_ok ?_ | refine AW.cond ?_ | refine AW.skip ?_ | refine AW.ret ?_ | refine AW.exit ?_); conv => whnf) | ((first | refine And.intro (@rfl Val _) ?_ | refine And.intro (by decide) ?_ | refine cs (fun _ => ?_) (fun _ => ?_)) <;> conv => whnf)
    rotate_left
    · rename_i h
      have := of_decide_eq_false h
      obtain rfl : n = 0 := by simp only at this; omega
      have hcs := hcs (Nat.zero_le _)
      simp only [linkF] at hc
      subst hc
      rcases c with _ | ⟨s, a, bs, p, x, y⟩
      · cases hcs
      simp only [lkT] at c3 ⊢
      conv => whnf
      repeat' first | refine AW.seq ?_ | refine AW.block ?_ | (refine (_root_.id : AW _ _ _ (.region 3 _ true) _ _ → _) ?_; refine AW.draw (id := 3) tab_ok mixed [0, 1, 2, 3] (by kernel_rfl) ?_; conv => whnf) | (refine (_root_.id : AW _ _ _ (.region 10 _ true) _ _ → _) ?_; refine AW.draw (id := 10) tab_ok mixed [0, 1, 2, 3, 4, 5, 6, 7, 8, 9, 10, 11, 12, 13, 14, 15, 16, 17, 18, 19, 20, 21, 22, 23] (by kernel_rfl) ?_; conv => whnf) | ((first | refine AW.region tab_ok ?_ | refine AW.cond ?_ | refine AW.skip ?_ | refine AW.ret ?_ | refine AW.exit ?_); conv => whnf) | (refine (c3).mono ?_; rintro _ _ ⟨rfl, rfl⟩; conv => whnf) | ((first | refine And.intro (@rfl Val _) ?_ | refine And.intro (by decide) ?_ | refine cs (fun _ => ?_) (fun _ => ?_)) <;> conv => whnf)
      · rename_i hq
        have hq : qc ≠ 0 := bne_iff_ne.1 hq
        rw [if_neg hq, if_pos hq]
        exact ⟨rfl, rfl⟩
      · rename_i hq
        have hq : qc = 0 := by simpa using hq
        subst hq
        exact ⟨rfl, rfl⟩
    rename_i h
    have := of_decide_eq_true h
    obtain ⟨i, rfl⟩ : ∃ i, n = i + 1 := ⟨n - 1, by simp only at this; omega⟩
    have ei : (((i + 1 : Nat) : Int) - 1) = (i : Int) := by omega
    have hil : i < l.length := by omega
    obtain ⟨d, hd'⟩ : ∃ d, l[i]? = some d := ⟨_, List.getElem?_eq_getElem hil⟩
    have hrow' : (drows l)[i]? = some d.cells := by simp [drows, hd']
    clear h this hr
    simp only [ei]
    refine ⟨by rw [hBl]; omega, fun row hr => ?_⟩
    obtain rfl := hB i row (by simpa using hr)
    simp only [linkF, linkS, hd'] at hc
    have hki : c = none → isR l k i = true := fun e => by
      have : ¬ i + 1 ≤ k := fun h => by rw [e] at hcs; exact absurd (hcs h) (by simp)
      obtain rfl : i = k := by omega
      exact hkk
    obtain ⟨s, ⟨a, bs⟩, ⟨q, name, arg, num, tk, tks, uk, uks, label, place, ks⟩, pl⟩ := d
    simp only [letT] at hc
    generalize isR l k i = b at *
    rcases c with _ | ⟨s', a', bs', p', x', y'⟩
    · have hki := hki rfl
      subst hki
      rw [if_pos rfl] at hc
      conv => whnf
      repeat' first | ((refine ⟨by rw [drows_len]; omega, fun row hr => ?_⟩; obtain rfl := Option.some.inj (hrow'.symm.trans hr); clear hr; conv => whnf)) | refine AW.seq ?_ | refine AW.block ?_ | (refine (_root_.id : AW _ _ _ (.region 3 _ true) _ _ → _) ?_; refine AW.draw (id := 3) tab_ok mixed [0, 1, 2, 3] (by kernel_rfl) ?_; conv => whnf) | (refine (_root_.id : AW _ _ _ (.region 10 _ true) _ _ → _) ?_; refine AW.draw (id := 10) tab_ok mixed [0, 1, 2, 3, 4, 5, 6, 7, 8, 9, 10, 11, 12, 13, 14, 15, 16, 17, 18, 19, 20, 21, 22, 23] (by kernel_rfl) ?_; conv => whnf) | ((first | refine AW.region tab_ok ?_ | refine AW.cond ?_ | refine AW.skip ?_ | refine AW.ret ?_ | refine AW.exit ?_); conv => whnf) | ((first | refine And.intro (@rfl Val _) ?_ | refine And.intro (by decide) ?_ | refine cs (fun _ => ?_) (fun _ => ?_)) <;> conv => whnf)
      rw [wrap64 (x := (i : Int) - 1) (by omega) (by omega)]
      exact ⟨⟨i, by omega, some (s, a, bs, pl, .node q name arg num tk tks uk uks label place ks, varT main pl0), hc, fun _ => rfl⟩, ⟨⟨rfl, rfl, rfl, rfl, rfl, rfl, trivial⟩, rfl, rfl, ⟨[], rfl⟩, rfl⟩, show i < i + 1 by omega⟩
    · conv => whnf
      repeat' first | ((refine ⟨by rw [drows_len]; omega, fun row hr => ?_⟩; obtain rfl := Option.some.inj (hrow'.symm.trans hr); clear hr; conv => whnf)) | refine AW.seq ?_ | refine AW.block ?_ | (refine (_root_.id : AW _ _ _ (.region 3 _ true) _ _ → _) ?_; refine AW.draw (id := 3) tab_ok mixed [0, 1, 2, 3] (by kernel_rfl) ?_; conv => whnf) | (refine (_root_.id : AW _ _ _ (.region 10 _ true) _ _ → _) ?_; refine AW.draw (id := 10) tab_ok mixed [0, 1, 2, 3, 4, 5, 6, 7, 8, 9, 10, 11, 12, 13, 14, 15, 16, 17, 18, 19, 20, 21, 22, 23] (by kernel_rfl) ?_; conv => whnf) | ((first | refine AW.region tab_ok ?_ | refine AW.cond ?_ | refine AW.skip ?_ | refine AW.ret ?_ | refine AW.exit ?_); conv => whnf) | ((first | refine And.intro (@rfl Val _) ?_ | refine And.intro (by decide) ?_ | refine cs (fun _ => ?_) (fun _ => ?_)) <;> conv => whnf)
      · rename_i hb
        rw [if_pos hb] at hc
        rw [wrap64 (x := (i : Int) - 1) (by omega) (by omega)]
        exact ⟨⟨i, by omega, some (s, a, bs, pl, .node q name arg num tk tks uk uks label place ks, lkT main pl0 (some (s', a', bs', p', x', y'))), hc, fun _ => rfl⟩, ⟨⟨rfl, rfl, rfl, rfl, rfl, rfl, trivial⟩, rfl, rfl, ⟨[], rfl⟩, rfl⟩, show i < i + 1 by omega⟩
      · rename_i hb
        rw [if_neg (by rw [hb]; decide)] at hc
        rw [wrap64 (x := (i : Int) - 1) (by omega) (by omega)]
        exact ⟨⟨i, by omega, some (s', a', bs', p', x', y'), hc, fun _ => rfl⟩, ⟨⟨rfl, rfl, rfl, rfl, rfl, rfl, trivial⟩, rfl, rfl, ⟨[], rfl⟩, rfl⟩, show i < i + 1 by omega⟩
  · have hE : linkE l main = (soundF l main).2 := if_pos hz
    have hR : linkR l main = tm0 := if_neg (by rw [hE]; exact hz)
    rw [hE, hR]
    clear hE hR
    generalize soundF l main = F at *
    obtain ⟨k, c, a, w⟩ := F
    simp only at c1 hz ⊢
    have hb : (c != 0) = true := bne_iff_ne.2 hz
    unfold fltV at c1 ⊢
    refine ACall.body tab_ok (ρ := 0) (N := 74) Tryz.func9 rfl rfl rfl rfl rfl ?_
    repeat' first | ((rw [hb]; conv => whnf)) | refine AW.seq ?_ | refine AW.block ?_ | (refine (_root_.id : AW _ _ _ (.region 3 _ true) _ _ → _) ?_; refine AW.draw (id := 3) tab_ok mixed [0, 1, 2, 3] (by kernel_rfl) ?_; conv => whnf) | (refine (_root_.id : AW _ _ _ (.region 10 _ true) _ _ → _) ?_; refine AW.draw (id := 10) tab_ok mixed [0, 1, 2, 3, 4, 5, 6, 7, 8, 9, 10, 11, 12, 13, 14, 15, 16, 17, 18, 19, 20, 21, 22, 23] (by kernel_rfl) ?_; conv => whnf) | ((first | refine AW.region tab_ok ?_ | refine AW.cond ?_ | refine AW.skip ?_ | refine AW.ret ?_ | refine AW.exit ?_); conv => whnf) | (refine (c1).mono ?_; rintro _ _ ⟨rfl, rfl⟩; conv => whnf) | ((first | refine And.intro (@rfl Val _) ?_ | refine And.intro (by decide) ?_ | refine cs (fun _ => ?_) (fun _ => ?_)) <;> conv => whnf)
    all_goals exact ⟨rfl, rfl⟩
end Go.Proofs.YthmbncehoblgpaaGreatDoor.E

/- errors.Is of an *api.Fault and a number: Go's own text walked; as a call over the engine's data. No conditions. -/
set_option linter.unusedVariables false
set_option linter.unusedSimpArgs false
namespace Go.Proofs.YthmbncehoblgpaaGreatDoor.E
open Go Go.RowKit Go.Extern.Stop Go.Stop Go.Extern

theorem is_run_equalIn_int {P : Program} (w : World) (d : Nat) {ti tn : TypeId} {ms : Array (String × TypeId)} {i : TypeInfo} {k : IntKind} (a b : Int)
    (hi : P.underlying ti = some (.interface ms)) (hn : P.underlying tn = some (.int k)) (hinfo : P.info? tn = some i) (hcomp : i.comparable = true) :
    (Op.equalIn (d + 2) ti (.iface tn (.int k a)) (.iface tn (.int k b))).run P w = .ok (a == b) w := by
  simp [Op.equalIn, run_underlying hi, run_underlying hn, typeInfo, hinfo, hcomp]
theorem is_run_eql_int {P : Program} (w : World) {ti tn : TypeId} {ms : Array (String × TypeId)} {i : TypeInfo} {k : IntKind} (a b : Int)
    (hi : P.underlying ti = some (.interface ms)) (hn : P.underlying tn = some (.int k)) (hinfo : P.info? tn = some i) (hcomp : i.comparable = true) :
    (Go.binOp .eql ti (.iface tn (.int k a)) (.iface tn (.int k b))).run P w = .ok (.bool (a == b)) w := by
  simp only [Go.binOp]
  simp [Op.equal, Op.maxDepth, is_run_equalIn_int w 9998 a b hi hn hinfo hcomp]
theorem is_typeOf (v : Value) (w : World) : (ReflectliteType.typeOf #[.iface 24 v]).run Tryz.prog w = .ok (.iface 103 (.agg #[.pointer (some ⟨1, 24, none⟩)])) w := by kernel_rfl
theorem is_comparable (w : World) : (ReflectliteType.method (fun t => do Rtype.noPackHeld "Comparable" t; pure (.bool (← typeInfo t).comparable)) #[.agg #[.pointer (some ⟨1, 24, none⟩)]]).run Tryz.prog w = .ok (.bool true) w := by kernel_rfl
theorem is_callComparable (w : World) : (callFunc 135 #[.agg #[.pointer (some ⟨1, 24, none⟩)]]).run Tryz.prog w = .ok (.value (.bool true)) w := by
  rw [@run_callFunc_extern Tryz.prog 135 _ (ReflectliteType.method fun t => do Rtype.noPackHeld "Comparable" t; pure (.bool (← typeInfo t).comparable)) Tryz.func135 (by kernel_rfl) (by kernel_rfl) (by kernel_rfl) (by kernel_rfl), is_comparable]
  rfl
theorem is_methodComparable (v : Value) (w : World) : (Go.method 299 103 v "Comparable").run Tryz.prog w = .ok (135, v) w := by kernel_rfl
theorem is_comp : (Tryz.prog.info? 24).map (·.comparable) = some true := by kernel_rfl
theorem is_noIs (v : Value) (xT : TypeId) (w : World) : (Instr.typeAssert (.iface 49 v) xT 145 true).run Tryz.prog w = .ok (.tuple #[.nilIface, .bool false]) w := run_typeAssert_lacksB Tryz.underlying145 (by kernel_rfl) (by kernel_rfl) v xT w
theorem is_hasUnwrap (v : Value) (xT : TypeId) (w : World) : (Instr.typeAssert (.iface 49 v) xT 111 true).run Tryz.prog w = .ok (.tuple #[.iface 49 v, .bool true]) w := run_typeAssert_hasB Tryz.underlying111 (by kernel_rfl) v xT w
theorem is_methodUnwrap (v : Value) (w : World) : (Go.method 299 49 v "Unwrap").run Tryz.prog w = .ok (129, v) w := by kernel_rfl
set_option maxHeartbeats 4000000 in
set_option maxRecDepth 10000 in
theorem is_hit (pb po : Nat) (c : Int) (w : World) (h1 : w.cell? ⟨pb, po, none⟩ = some (.int .i64 c)) :
    Calls Tryz.prog 46 #[.iface 49 (.pointer (some ⟨pb, po, none⟩)), .iface 24 (.int .i64 c)] w fun e w' => e = .returned (.bool true) ∧ w' = w := by
  obtain ⟨i, hi, hcmp⟩ := Option.map_eq_some_iff.1 is_comp
  have hTO := @run_callFunc_extern Tryz.prog 55 _ ReflectliteType.typeOf Tryz.func55 (by kernel_rfl) (by kernel_rfl) (by kernel_rfl) (by kernel_rfl)
  have hC := is_callComparable
  have tT := is_typeOf
  have mR := is_methodComparable
  have nI := is_noIs
  have uF := is_hasUnwrap
  have mU := is_methodUnwrap
  have hty := run_eql_iface_types (P := Tryz.prog) 49 24 (.pointer (some ⟨pb, po, none⟩)) (.int .i64 c) Tryz.underlying37 (by decide) w
  have heq := is_run_eql_int (P := Tryz.prog) w c c Tryz.underlying37 Tryz.underlying24 hi hcmp
  simp only [beq_self_eq_true] at heq
  go_enter Tryz.func46, Tryz.ntmps46
  go_wp2
  refine wp_loop_rounds 2 ?_
  rw [rounds_succ]
  go_wp2
  rw [rounds_succ]
  go_wp2
  go_ret
  exact ⟨rfl, rfl⟩
theorem is_call (c a : Int) (s : ByteArray) : ACall Tryz.prog 46 [.c (.d (.ifc 49 (.rp 0 [.int .i64 c, .int .i64 a, .str s]))), .c (.d (.ifc 24 (.int .i64 c)))] [] (fun o σ => o = .ret (.c (.d (.bool true))) ∧ σ = []) where
  out := fun w C vs hI hv => by
    obtain ⟨u, v, rfl, h1, h2⟩ := two_vs hv
    cases repA_d (c_of h1) with
    | ifc _ u _ h1 =>
    cases repA_d (c_of h2) with
    | ifc _ v _ h2 =>
    cases h2
    cases h1 with
    | rp _ be oe _ cs e fz vs hrt hh hcell hrep =>
    have h3 := hcell 0 (by simp)
    have h4 := hrep 0 _ rfl
    have h5 : vs 0 = .int .i64 c := by
      generalize vs 0 = z at h4
      cases h4; rfl
    rw [h5] at h3
    refine (is_hit be oe c w (by simp [World.cell?, hh]; simpa using h3)).mono fun e1 w' ⟨g1, g2⟩ => ?_
    subst g1; subst g2
    exact ⟨_, _, C, ⟨rfl, rfl⟩, hI, .refl _ _ _, _, rfl, .c _ _ (.d _ _ (.bool _))⟩
end Go.Proofs.YthmbncehoblgpaaGreatDoor.E

/- Walks: faults told, places, the law DefsLink. No conditions. -/
set_option linter.unusedVariables false
set_option linter.unusedSimpArgs false
namespace Go.Proofs.YthmbncehoblgpaaGreatDoor.E
open Go

/-- No number, no place, no word. -/
def FlOk (f : Fl) : Prop := f.1 = 0 → f = (0, 0, noB)
set_option maxRecDepth 10000 in
theorem fault_call (f : Fl) (h : FlOk f) : ACall Tryz.prog 22 [.c (.d (errV f))] [] (fun o σ => o = .ret (.tup [fltV f, .c (.d (.bool true))]) ∧ σ = []) := by
  by_cases hz : f.1 = 0
  · rw [h hz]
    rw [show errV (0, 0, noB) = .nili from rfl]
    unfold fltV
    refine ACall.body tab_ok (ρ := 0) (N := 37) Tryz.func22 rfl rfl rfl rfl rfl ?_
    repeat' first | refine AW.seq ?_ | refine AW.block ?_ | (refine (_root_.id : AW _ _ _ (.region 6 _ true) _ _ → _) ?_; refine AW.draw (id := 6) tab_ok mixed [0, 1, 2, 3, 4, 5, 6, 7, 8, 9, 10, 11, 12, 13, 14, 15, 16, 17, 18, 19, 20, 21] (by kernel_rfl) ?_; conv => whnf) | ((first | refine AW.region tab_ok ?_ | refine AW.cond ?_ | refine AW.skip ?_ | refine AW.ret ?_ | refine AW.exit ?_); conv => whnf) | ((first | refine And.intro (@rfl Val _) ?_ | refine And.intro (by decide) ?_ | refine cs (fun _ => ?_) (fun _ => ?_)) <;> conv => whnf)
    exact ⟨rfl, rfl⟩
  · rw [errV, if_neg hz]
    obtain ⟨c, a, w⟩ := f
    simp only at hz ⊢
    have c1 := as_call [.int .i64 c, .int .i64 a, .str w]
    have c2 := is_call c a w
    unfold fltV
    refine ACall.body tab_ok (ρ := 0) (N := 37) Tryz.func22 rfl rfl rfl rfl rfl ?_
    repeat' first | refine AW.seq ?_ | refine AW.block ?_ | (refine (_root_.id : AW _ _ _ (.region 6 _ true) _ _ → _) ?_; refine AW.draw (id := 6) tab_ok mixed [0, 1, 2, 3, 4, 5, 6, 7, 8, 9, 10, 11, 12, 13, 14, 15, 16, 17, 18, 19, 20, 21] (by kernel_rfl) ?_; conv => whnf) | ((first | refine AW.region tab_ok ?_ | refine AW.cond ?_ | refine AW.skip ?_ | refine AW.ret ?_ | refine AW.exit ?_); conv => whnf) | ((first | refine (c1).mono ?_ | refine (c2).mono ?_); rintro _ _ ⟨rfl, rfl⟩; conv => whnf) | ((first | refine And.intro (@rfl Val _) ?_ | refine And.intro (by decide) ?_ | refine cs (fun _ => ?_) (fun _ => ?_)) <;> conv => whnf)
    exact ⟨rfl, rfl⟩
set_option maxRecDepth 10000 in
theorem told_call (f : Fl) (h : FlOk f) : ACall Tryz.prog 10 [.c (.d (errV f)), fltV f] [] (fun o σ => o = .ret (.c (.d (.bool true))) ∧ σ = []) := by
  have c1 := fault_call f h
  by_cases hz : f.1 = 0
  · rw [h hz] at c1 ⊢
    rw [show errV (0, 0, noB) = .nili from rfl] at c1 ⊢
    unfold fltV at c1 ⊢
    refine ACall.body tab_ok (ρ := 0) (N := 26) Tryz.func10 rfl rfl rfl rfl rfl ?_
    repeat' first | refine AW.seq ?_ | refine AW.block ?_ | (refine (_root_.id : AW _ _ _ (.region 2 _ true) _ _ → _) ?_; refine AW.draw (id := 2) tab_ok mixed [0, 1, 2, 3, 4, 5, 6, 7, 8, 9, 10, 11, 12, 13, 14] (by kernel_rfl) ?_; conv => whnf) | ((first | refine AW.region tab_ok ?_ | refine AW.cond ?_ | refine AW.skip ?_ | refine AW.ret ?_ | refine AW.exit ?_); conv => whnf) | (refine (c1).mono ?_; rintro _ _ ⟨rfl, rfl⟩; conv => whnf) | ((first | refine And.intro (@rfl Val _) ?_ | refine And.intro (by decide) ?_ | refine cs (fun _ => ?_) (fun _ => ?_)) <;> conv => whnf)
    exact ⟨rfl, rfl⟩
  · rw [errV, if_neg hz] at c1 ⊢
    obtain ⟨c, a, w⟩ := f
    simp only at hz c1 ⊢
    unfold fltV at c1 ⊢
    refine ACall.body tab_ok (ρ := 0) (N := 26) Tryz.func10 rfl rfl rfl rfl rfl ?_
    repeat' first | refine AW.seq ?_ | refine AW.block ?_ | (refine (_root_.id : AW _ _ _ (.region 2 _ true) _ _ → _) ?_; refine AW.draw (id := 2) tab_ok mixed [0, 1, 2, 3, 4, 5, 6, 7, 8, 9, 10, 11, 12, 13, 14] (by kernel_rfl) ?_; conv => whnf) | ((first | refine AW.region tab_ok ?_ | refine AW.cond ?_ | refine AW.skip ?_ | refine AW.ret ?_ | refine AW.exit ?_); conv => whnf) | (refine (c1).mono ?_; rintro _ _ ⟨rfl, rfl⟩; conv => whnf) | ((first | refine And.intro (@rfl Val _) ?_ | refine And.intro (by decide) ?_ | refine cs (fun _ => ?_) (fun _ => ?_)) <;> conv => whnf)
    · exact ⟨outb (by show (false == (c == 0)) = true; simp [hz]), rfl⟩
    · rename_i g
      simp at g
structure PlI (ks : List Tm) where
  i : Nat
  hi : i ≤ ks.length
set_option maxRecDepth 10000 in
theorem places_call (t : Tm) : tmN t ≤ 8192 → ACall Tryz.prog 13 [t.val, t.val] [] (fun o σ => o = .ret (.c (.d (.bool true))) ∧ σ = []) := by
  induction t using Tm.ind with
  | _ k name arg num tk tks uk uks label place ks ih =>
  intro hN
  have hlen := tmNL_len ks
  simp only [tmN] at hN
  have ih' : ∀ t ∈ ks, ACall Tryz.prog 13 [t.val, t.val] [] (fun o σ => o = .ret (.c (.d (.bool true))) ∧ σ = []) := fun t ht => ih t ht (by have := tmN_mem ks t ht; omega)
  have b1 : (place != place) = false := by simp
  have b2 : ((((Tm.rows ks).length : Nat) : Int) != (((Tm.rows ks).length : Nat) : Int)) = false := by simp
  clear ih
  refine ACall.body tab_ok (ρ := 0) (N := 39) Tryz.func13 rfl rfl rfl rfl rfl ?_
  repeat' first | ((rw [b1]; conv => whnf)) | ((rw [b2]; conv => whnf)) | refine AW.seq ?_ | refine AW.block ?_ | (refine (_root_.id : AW _ _ _ (.region 6 _ true) _ _ → _) ?_; refine AW.draw (id := 6) tab_ok mixed [0, 1, 2, 3, 4, 5, 6, 7, 8, 9, 10, 11] (by kernel_rfl) ?_; conv => whnf) | ((first | refine AW.region tab_ok ?_ | refine AW.cond ?_ | refine AW.skip ?_ | refine AW.ret ?_ | refine AW.exit ?_); conv => whnf) | ((first | refine And.intro (@rfl Val _) ?_ | refine And.intro (by decide) ?_ | refine cs (fun _ => ?_) (fun _ => ?_)) <;> conv => whnf)
  refine AW.loop (ι := PlI ks) (fun x => ⟨39, [(23, .c (.d (.int .i64 x.i))), (22, .c (.d (.int .i64 (Tm.rows ks).length))), (2, .c (.ptr 0 0)), (3, .c (.ptr 1 0))], [.var [.d (.int .i8 k), .d (.str name), .d (.str arg), .d (.int .i64 num), .d (.int .i8 tk), .d (.sl 0 2 (Ty.rows tks)), .d (.int .i8 uk), .d (.sl 0 2 (Ty.rows uks)), .d (.int .i64 label), .d (.int .i64 place), .d (.sl 0 11 (Tm.rows ks))], .var [.d (.int .i8 k), .d (.str name), .d (.str arg), .d (.int .i64 num), .d (.int .i8 tk), .d (.sl 0 2 (Ty.rows tks)), .d (.int .i8 uk), .d (.sl 0 2 (Ty.rows uks)), .d (.int .i64 label), .d (.int .i64 place), .d (.sl 0 11 (Tm.rows ks))]], []⟩)
    (fun x => ks.length - x.i) ⟨0, Nat.zero_le _⟩ 2 (fun _ => rfl) (Nat.le_of_ble_eq_true rfl) ⟨⟨rfl, rfl, rfl, rfl, trivial⟩, rfl, rfl, ⟨[], rfl⟩, rfl⟩ (fun x => ?_)
  obtain ⟨i, hi⟩ := x
  repeat' first | refine AW.seq ?_ | refine AW.block ?_ | (refine (_root_.id : AW _ _ _ (.region 6 _ true) _ _ → _) ?_; refine AW.draw (id := 6) tab_ok mixed [0, 1, 2, 3, 4, 5, 6, 7, 8, 9, 10, 11] (by kernel_rfl) ?_; conv => whnf) | ((first | refine AW.region tab_ok ?_ | refine AW.cond ?_ | refine AW.skip ?_ | refine AW.ret ?_ | refine AW.exit ?_); conv => whnf) | ((first | refine And.intro (@rfl Val _) ?_ | refine And.intro (by decide) ?_ | refine cs (fun _ => ?_) (fun _ => ?_)) <;> conv => whnf)
  · rename_i h2
    simp only [trows_length] at h2 ⊢
    have := of_decide_eq_true h2
    obtain ⟨x, hx⟩ : ∃ x, ks[i]? = some x := ⟨_, List.getElem?_eq_getElem (by omega)⟩
    have hlt : i < ks.length := by omega
    have hrow : (Tm.rows ks)[i]? = some x.cells := by rw [trows_map]; simp [hx]
    have hc := ih' x (List.mem_of_getElem? hx)
    obtain ⟨kx, namex, argx, numx, tkx, tksx, ukx, uksx, labelx, placex, ksx⟩ := x
    refine ⟨by omega, fun row hr => ?_⟩
    obtain rfl := Option.some.inj (hrow.symm.trans hr)
    clear hr
    conv => whnf
    repeat' first | ((refine ⟨by rw [trows_length]; omega, fun row hr => ?_⟩; obtain rfl := Option.some.inj (hrow.symm.trans hr); clear hr; conv => whnf)) | refine AW.seq ?_ | refine AW.block ?_ | (refine (_root_.id : AW _ _ _ (.region 6 _ true) _ _ → _) ?_; refine AW.draw (id := 6) tab_ok mixed [0, 1, 2, 3, 4, 5, 6, 7, 8, 9, 10, 11] (by kernel_rfl) ?_; conv => whnf) | ((first | refine AW.region tab_ok ?_ | refine AW.cond ?_ | refine AW.skip ?_ | refine AW.ret ?_ | refine AW.exit ?_); conv => whnf) | (refine (hc).mono ?_; rintro _ _ ⟨rfl, rfl⟩; conv => whnf) | ((first | refine And.intro (@rfl Val _) ?_ | refine And.intro (by decide) ?_ | refine cs (fun _ => ?_) (fun _ => ?_)) <;> conv => whnf)
    rw [wrap64 (x := (i : Int) + 1) (by omega) (by omega)]
    exact ⟨⟨i + 1, hlt⟩, ⟨⟨rfl, rfl, rfl, rfl, trivial⟩, rfl, rfl, ⟨[], rfl⟩, rfl⟩, show ks.length - (i + 1) < ks.length - i by omega⟩
  · exact ⟨rfl, rfl⟩
theorem linkE_ok (l : List Df) (main : ByteArray) : FlOk (linkE l main) := by
  unfold FlOk linkE
  split
  · rename_i h; intro h0; exact absurd h0 h
  · split
    · rename_i h; intro h0; exact absurd h0 h
    · intro _; rfl
theorem linkR_check (l : List Df) (main : ByteArray) (h : (linkE l main).1 = 0) : tmcheck (linkR l main) = 0 := by
  rw [linkR, if_pos h]
  unfold linkE at h
  split at h
  · rename_i h1; exact absurd h h1
  · split at h
    · rename_i h1; exact absurd h h1
    · rename_i h1; simpa using h1
set_option maxRecDepth 10000 in
theorem law_DefsLink (l : List Df) (main : ByteArray) (hok : ∀ d ∈ l, DfOk d) : ACall Tryz.prog 4 [.c (.d (.sl 0 15 (drows l))), .c (.d (.str main))] [] (fun o σ => o = .ret (.c (.d (.bool true))) ∧ σ = []) := by
  have c1 := Link_call l main hok
  have c2 := rLink_call l main hok
  have c3 := told_call (linkE l main) (linkE_ok l main)
  have c4 := Bare_call (linkR l main)
  have c5 := Whole_call _ (fine_BareS (linkR l main))
  have hc := linkR_check l main
  have h0 : (linkE l main).1 ≠ 0 → linkR l main = tm0 := fun h => if_neg h
  generalize linkR l main = T at *
  generalize linkE l main = f at *
  by_cases hz : f.1 = 0
  · have c6 := places_call T (tmcheck_ok (hc hz)).1
    rw [errV, if_pos hz] at c1 c3
    unfold fltV at c2 c3
    generalize tmBareS T = m at *
    obtain ⟨k, name, arg, num, tk, tks, uk, uks, label, place, ks⟩ := T
    obtain ⟨kx, namex, argx, numx, tkx, tksx, ukx, uksx, labelx, placex, ksx⟩ := m
    refine ACall.body tab_ok (ρ := 0) (N := 49) Tryz.func4 rfl rfl rfl rfl rfl ?_
    repeat' first | refine AW.seq ?_ | refine AW.block ?_ | (refine (_root_.id : AW _ _ _ (.region 3 _ true) _ _ → _) ?_; refine AW.draw (id := 3) tab_ok mixed [0, 1, 2, 3, 4, 5, 6, 7, 9, 8, 10, 11, 12, 13, 14, 15, 16, 17, 18, 19, 20, 21, 22, 23, 24, 25, 26, 27, 28] (by kernel_rfl) ?_; conv => whnf) | ((first | refine AW.region tab_ok ?_ | refine AW.cond ?_ | refine AW.skip ?_ | refine AW.ret ?_ | refine AW.exit ?_); conv => whnf) | ((first | refine (c1).mono ?_ | refine (c2).mono ?_ | refine (c3).mono ?_ | refine (c4).mono ?_ | refine (c5).mono ?_ | refine (c6).mono ?_); rintro _ _ ⟨rfl, rfl⟩; conv => whnf) | ((first | refine And.intro (@rfl Val _) ?_ | refine And.intro (by decide) ?_ | refine cs (fun _ => ?_) (fun _ => ?_)) <;> conv => whnf)
    exact ⟨rfl, rfl⟩
  · have c6 := Whole_call tm0 (.node (by simp [nodes, nodesL]) (by simp [nodes, nodesL]) (by simp) (by simp))
    rw [h0 hz] at c1 c2
    rw [errV, if_neg hz] at c1 c3
    unfold fltV at c2 c3
    refine ACall.body tab_ok (ρ := 0) (N := 49) Tryz.func4 rfl rfl rfl rfl rfl ?_
    repeat' first | refine AW.seq ?_ | refine AW.block ?_ | (refine (_root_.id : AW _ _ _ (.region 3 _ true) _ _ → _) ?_; refine AW.draw (id := 3) tab_ok mixed [0, 1, 2, 3, 4, 5, 6, 7, 9, 8, 10, 11, 12, 13, 14, 15, 16, 17, 18, 19, 20, 21, 22, 23, 24, 25, 26, 27, 28] (by kernel_rfl) ?_; conv => whnf) | ((first | refine AW.region tab_ok ?_ | refine AW.cond ?_ | refine AW.skip ?_ | refine AW.ret ?_ | refine AW.exit ?_); conv => whnf) | ((first | refine (c1).mono ?_ | refine (c2).mono ?_ | refine (c3).mono ?_ | refine (c6).mono ?_); rintro _ _ ⟨rfl, rfl⟩; conv => whnf) | ((first | refine And.intro (@rfl Val _) ?_ | refine And.intro (by decide) ?_ | refine cs (fun _ => ?_) (fun _ => ?_)) <;> conv => whnf)
    exact ⟨rfl, rfl⟩
end Go.Proofs.YthmbncehoblgpaaGreatDoor.E
