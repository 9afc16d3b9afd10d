/- Texts, merged: Tm3, Tm4, Tm5, Tm6, Tm7, Tm8, Tm9, Ty5, Ty6, Tm10, Tm11, Ty7, Ty8, Ty9, Tm12, Tm13, Tm15. No conditions. -/
import Derived.Test.YtmaokphbfjpodaaGreatDoorGenX3
import Derived.Test.YtmaokphbfjpodaaGreatDoorGenX2
import Derived.Test.YtmaokphbfjpodaaGreatDoorEngX3
/- Walks: depth of terms, ref sizes. No conditions. -/
set_option linter.unusedVariables false
set_option linter.unusedSimpArgs false
namespace Go.Proofs.YtmaokphbfjpodaaGreatDoor.E
open Go

mutual
def tmD : Tm → Nat → Nat
  | .node k _ _ _ tk tks uk uks _ _ ks, most => if most ≤ 1 then most else
      min (max (max (if typeK k = true then tdepth (.node tk tks) else 0) (if toK k = true then tdepth (.node uk uks) else 0)) (tmDL ks (most - 1)) + 1) most
def tmDL : List Tm → Nat → Nat
  | [], _ => 0
  | t :: l, most => max (tmD t most) (tmDL l most)
end
theorem tmDL_take (m : Nat) : ∀ (ks : List Tm) (i : Nat) t, ks[i]? = some t → tmDL (ks.take (i + 1)) m = max (tmDL (ks.take i) m) (tmD t m)
  | x :: l, 0, t, h => by simp at h; subst h; simp [tmDL]
  | x :: l, i + 1, t, h => by
    simp only [List.getElem?_cons_succ] at h
    have := tmDL_take m l i t h
    simp only [List.take_succ_cons, tmDL, this]
    omega
theorem tdepth_le (t : Ty) : tdepth t ≤ 201 := by
  unfold tdepth
  split
  · omega
  · exact deepF_le t 201
theorem tmD_le : ∀ (t : Tm) (m : Nat), tmD t m ≤ m
  | .node k _ _ _ tk tks uk uks _ _ ks, m => by
    simp only [tmD]
    split
    · exact Nat.le_refl m
    · omega
theorem tmDL_le : ∀ (ks : List Tm) (m : Nat), tmDL ks m ≤ m
  | [], m => by simp [tmDL]
  | t :: l, m => by
    have := tmD_le t m
    have := tmDL_le l m
    simp only [tmDL]
    omega
structure UpToT (ks : List Tm) where
  i : Nat
  hi : i ≤ ks.length
noncomputable def rest77 : Code := match Tryz.f51.body with
  | some (.seq _ (.seq _ (.seq _ (.seq _ (.seq _ (.seq _ c)))))) => c
  | _ => .skip
set_option maxRecDepth 10000 in
theorem depth_rest (k : Int) (name arg : ByteArray) (num tk : Int) (tks : List Ty) (uk : Int) (uks : List Ty) (label place : Int) (ks : List Tm) (most d0 : Nat) (s0 : Int) (b1 b2 b3 b4 b5 b6 b7 : Bool) (hd : d0 ≤ 201) (h1 : 1 < most) (hm : most ≤ 201) (hlen : ks.length ≤ 8192)
    (ih : ∀ t ∈ ks, ∀ most : Nat, 1 ≤ most → most ≤ 201 → ACall Tryz.prog 51 [.c (.d (.rp 0 t.cells)), .c (.d (.int .i64 most))] [] (fun o σ => o = .ret (.c (.d (.int .i64 (tmD t most)))) ∧ σ = [])) :
    AW Tryz.prog tab 0 rest77 ⟨59, [(0, .c (.d (.rp 0 (Tm.node k name arg num tk tks uk uks label place ks).cells))), (1, .c (.d (.int .i64 most))), (5, .c (.d (.int .i64 d0)))], [.var [.d (.int .i64 s0), .d (.bool b1), .d (.bool b2), .d (.bool b3), .d (.bool b4), .d (.bool b5), .d (.bool b6), .d (.bool b7)]], []⟩
      (afin tab 0 51 [.tmp 4] 0 (fun o σ => o = .ret (.c (.d (.int .i64 (min (max d0 (tmDL ks (most - 1)) + 1) most : Nat)))) ∧ σ = [])) := by
  repeat' first | refine AW.seq ?_ | refine AW.block ?_ | ((first | refine AW.region tab_ok ?_ | refine AW.cond ?_ | refine AW.skip ?_ | refine AW.ret ?_ | refine AW.exit ?_); conv => whnf) | ((first | refine And.intro (@rfl Val _) ?_ | refine And.intro (by decide) ?_ | refine cs (fun _ => ?_) (fun _ => ?_)) <;> conv => whnf)
  refine AW.loop (ι := UpToT ks) (fun x => ⟨59, [(40, .c (.d (.int .i64 x.i))), (39, .c (.d (.int .i64 (Tm.rows ks).length))), (0, .c (.d (.rp 0 (Tm.node k name arg num tk tks uk uks label place ks).cells))), (1, .c (.d (.int .i64 most))), (5, .c (.d (.int .i64 (max d0 (tmDL (ks.take x.i) (most - 1)) : Nat))))],
      [.var [.d (.int .i64 s0), .d (.bool b1), .d (.bool b2), .d (.bool b3), .d (.bool b4), .d (.bool b5), .d (.bool b6), .d (.bool b7)]], []⟩)
    (fun x => ks.length - x.i) ⟨0, Nat.zero_le _⟩ 1 (fun _ => rfl) (Nat.le_of_ble_eq_true rfl) ⟨⟨rfl, rfl, rfl, rfl, ?_, trivial⟩, rfl, rfl, ⟨[], rfl⟩, rfl⟩ (fun x => ?_)
  · show Val.c (.d (.int .i64 _)) = Val.c (.d (.int .i64 _))
    simp [tmDL]
  obtain ⟨i, hi⟩ := x
  repeat' first | refine AW.seq ?_ | refine AW.block ?_ | ((first | refine AW.region tab_ok ?_ | refine AW.cond ?_ | refine AW.skip ?_ | refine AW.ret ?_ | refine AW.exit ?_); conv => whnf) | ((first | refine And.intro (@rfl Val _) ?_ | refine And.intro (by decide) ?_ | refine cs (fun _ => ?_) (fun _ => ?_)) <;> conv => whnf)
  · rename_i h2
    simp only [trows_length] at h2 ⊢
    have := of_decide_eq_true h2
    refine ⟨by omega, fun row hrow => ?_⟩
    obtain ⟨t, ht, rfl⟩ := trows_get ks i row (by simpa using hrow)
    have hlt : i < ks.length := (List.getElem?_eq_some_iff.1 ht).1
    have hmem := List.mem_of_getElem? ht
    conv => whnf
    repeat' first | refine AW.seq ?_ | refine AW.block ?_ | ((first | refine AW.region tab_ok ?_ | refine AW.cond ?_ | refine AW.skip ?_ | refine AW.ret ?_ | refine AW.exit ?_); conv => whnf) | ((first | refine And.intro (@rfl Val _) ?_ | refine And.intro (by decide) ?_ | refine cs (fun _ => ?_) (fun _ => ?_)) <;> conv => whnf)
    rw [wrap64 (by omega) (by omega), show (most : Int) - 1 = ((most - 1 : Nat) : Int) by omega]
    refine (ih t hmem _ (by omega) (by omega)).mono ?_
    rintro _ _ ⟨rfl, rfl⟩
    conv => whnf
    repeat' first | refine AW.seq ?_ | refine AW.block ?_ | ((first | refine AW.region tab_ok ?_ | refine AW.cond ?_ | refine AW.skip ?_ | refine AW.ret ?_ | refine AW.exit ?_); conv => whnf) | ((first | refine And.intro (@rfl Val _) ?_ | refine And.intro (by decide) ?_ | refine cs (fun _ => ?_) (fun _ => ?_)) <;> conv => whnf)
    rw [wrap64 (x := (i : Int) + 1) (by omega) (by omega), show max ((max d0 (tmDL (List.take i ks) (most - 1)) : Nat) : Int) (tmD t (most - 1) : Int) = (max d0 (tmDL (List.take (i + 1) ks) (most - 1)) : Nat) by rw [tmDL_take _ ks i _ ht]; omega]
    exact ⟨⟨i + 1, hlt⟩, ⟨⟨rfl, rfl, rfl, rfl, rfl, trivial⟩, rfl, rfl, ⟨[], rfl⟩, rfl⟩, show ks.length - (i + 1) < ks.length - i by omega⟩
  · rename_i h2
    simp only [trows_length] at h2
    have := of_decide_eq_false h2
    obtain rfl : i = ks.length := by omega
    simp only [List.take_length]
    refine ⟨?_, rfl⟩
    have hle : tmDL ks (most - 1) ≤ most - 1 := tmDL_le ks (most - 1)
    simp only [oneOf]
    rw [wrap64 (by omega) (by omega)]
    rw [show min (((max d0 (tmDL ks (most - 1)) : Nat) : Int) + 1) (most : Int) = (min (max d0 (tmDL ks (most - 1)) + 1) most : Nat) by omega]
set_option maxRecDepth 10000 in
theorem tdepth_call (t : Tm) : tmN t ≤ 8192 → ∀ most : Nat, 1 ≤ most → most ≤ 201 → ACall Tryz.prog 51 [.c (.d (.rp 0 t.cells)), .c (.d (.int .i64 most))] [] (fun o σ => o = .ret (.c (.d (.int .i64 (tmD t most)))) ∧ σ = []) := by
  induction t using Tm.ind with
  | _ k name arg num tk tks uk uks label place ks ih =>
  intro hN most h1 hm
  have hlen := tmNL_len ks
  simp only [tmN] at hN
  have ih' : ∀ t ∈ ks, ∀ most : Nat, 1 ≤ most → most ≤ 201 → ACall Tryz.prog 51 [.c (.d (.rp 0 t.cells)), .c (.d (.int .i64 most))] [] (fun o σ => o = .ret (.c (.d (.int .i64 (tmD t most)))) ∧ σ = []) := fun t ht => ih t ht (by have := tmN_mem ks t ht; omega)
  refine ACall.body tab_ok (ρ := 0) (N := 59) Tryz.func51 rfl rfl rfl rfl rfl ?_
  refine AW.seq ?_
  refine AW.region tab_ok ?_; conv => whnf
  refine AW.seq ?_
  refine AW.seq ?_
  refine AW.region tab_ok ?_; conv => whnf
  refine AW.cond ?_; conv => whnf
  refine cs (fun h2 => ?_) (fun h2 => ?_) <;> conv => whnf
  · skip
    repeat' first | refine AW.seq ?_ | refine AW.block ?_ | ((first | refine AW.region tab_ok ?_ | refine AW.cond ?_ | refine AW.skip ?_ | refine AW.ret ?_ | refine AW.exit ?_); conv => whnf) | ((first | refine And.intro (@rfl Val _) ?_ | refine And.intro (by decide) ?_ | refine cs (fun _ => ?_) (fun _ => ?_)) <;> conv => whnf)
    have : most = 1 := by simp at h2; omega
    subst this
    refine ⟨?_, rfl⟩
    simp [oneOf, tmD]
  · have hgt : 1 < most := by simp at h2; omega
    refine AW.skip ?_; conv => whnf
    refine AW.seq ?_
    refine AW.region tab_ok ?_; conv => whnf
    refine AW.seq ?_
    refine AW.region tab_ok ?_; conv => whnf
    refine (of_call k).mono ?_
    rintro _ _ ⟨rfl, rfl⟩
    conv => whnf
    have fin : ∀ (d0 : Nat), d0 ≤ 201 → d0 = max (if typeK k = true then tdepth (.node tk tks) else 0) (if toK k = true then tdepth (.node uk uks) else 0) → ∀ env, get env 0 = .c (.d (.rp 0 (Tm.node k name arg num tk tks uk uks label place ks).cells)) → get env 1 = .c (.d (.int .i64 most)) → get env 5 = .c (.d (.int .i64 d0)) →
        AW Tryz.prog tab 0 rest77 ⟨59, env, [.var [.d (.int .i64 (if validK k = true then kidsK k else 0)), .d (.bool (nameK k)), .d (.bool (argK k)), .d (.bool (decide (k = 1))), .d (.bool (typeK k)), .d (.bool (toK k)), .d (.bool (decide (k = 17))), .d (.bool (decide (k = 15)))]], []⟩ (afin tab 0 51 Tryz.f51.results.toList ([] : List AObj).length (fun o σ => o = .ret (.c (.d (.int .i64 (tmD (.node k name arg num tk tks uk uks label place ks) most)))) ∧ σ = [])) := fun d0 hd he env g0 g1 g5 => by
      have ed : tmD (.node k name arg num tk tks uk uks label place ks) most = min (max d0 (tmDL ks (most - 1)) + 1) most := by
        simp only [tmD]
        rw [if_neg (by omega), ← he]
      rw [ed]
      refine AW.fits ?_ ?_ (depth_rest k name arg num tk tks uk uks label place ks most d0 (if validK k = true then kidsK k else 0) (nameK k) (argK k) (decide (k = 1)) (typeK k) (toK k) (decide (k = 17)) (decide (k = 15)) hd hgt hm (by omega) ih')
      · exact ⟨⟨g0, g1, g5, trivial⟩, rfl, rfl, ⟨[], rfl⟩, rfl⟩
      · rfl
    refine AW.seq ?_
    refine AW.seq ?_
    refine AW.region tab_ok ?_; conv => whnf
    refine AW.cond ?_; conv => whnf
    refine cs (fun h3 => ?_) (fun h3 => ?_) <;> conv => whnf
    · refine AW.region tab_ok ?_; conv => whnf
      refine (depth_call (.node tk tks)).mono ?_
      rintro _ _ ⟨rfl, rfl⟩
      conv => whnf
      refine AW.seq ?_
      refine AW.seq ?_
      refine AW.region tab_ok ?_; conv => whnf
      refine AW.cond ?_; conv => whnf
      refine cs (fun h4 => ?_) (fun h4 => ?_) <;> conv => whnf
      · refine AW.region tab_ok ?_; conv => whnf
        refine (depth_call (.node uk uks)).mono ?_
        rintro _ _ ⟨rfl, rfl⟩
        conv => whnf
        have e5 : max ((tdepth (.node tk tks) : Int) : Int) (tdepth (.node uk uks) : Int) = ((max (tdepth (.node tk tks)) (tdepth (.node uk uks)) : Nat) : Int) := by omega
        rw [e5]
        exact fin _ (by have := tdepth_le (.node tk tks); have := tdepth_le (.node uk uks); omega) (by simp [h3, h4]) _ rfl rfl rfl
      · refine AW.skip ?_; conv => whnf
        exact fin (tdepth (.node tk tks)) (by have := tdepth_le (.node tk tks); omega) (by simp [h3, h4]) _ rfl rfl rfl
    · refine AW.skip ?_; conv => whnf
      refine AW.seq ?_
      refine AW.seq ?_
      refine AW.region tab_ok ?_; conv => whnf
      refine AW.cond ?_; conv => whnf
      refine cs (fun h4 => ?_) (fun h4 => ?_) <;> conv => whnf
      · refine AW.region tab_ok ?_; conv => whnf
        refine (depth_call (.node uk uks)).mono ?_
        rintro _ _ ⟨rfl, rfl⟩
        conv => whnf
        have e5 : max (0 : Int) (tdepth (.node uk uks) : Int) = ((max 0 (tdepth (.node uk uks)) : Nat) : Int) := by omega
        rw [e5]
        exact fin _ (by have := tdepth_le (.node tk tks); have := tdepth_le (.node uk uks); omega) (by simp [h3, h4]) _ rfl rfl rfl
      · refine AW.skip ?_; conv => whnf
        exact fin 0 (by have := tdepth_le (.node tk tks); omega) (by simp [h3, h4]) _ rfl rfl rfl
def tmDepth (t : Tm) : Nat := if tmN t > 8192 then 201 else tmD t 201
set_option maxRecDepth 10000 in
theorem tDepth_call (t : Tm) : ACall Tryz.prog 27 [t.val] [] (fun o σ => o = .ret (.c (.d (.int .i64 (tmDepth t)))) ∧ σ = []) := by
  have c1 := tnodes_call t
  have c2 := tdepth_call t
  have e : tmDepth t = if tmN t > 8192 then 201 else tmD t 201 := rfl
  rw [e]
  generalize tmN t = nn at *
  generalize hd : tmD t 201 = dd
  have c3 : nn ≤ 8192 → ACall Tryz.prog 51 [.c (.d (.rp 0 t.cells)), .c (.d (.int .i64 201))] [] (fun o σ => o = .ret (.c (.d (.int .i64 dd))) ∧ σ = []) := fun h => by
    rw [← hd]; exact c2 h 201 (by omega) (by omega)
  obtain ⟨k, name, arg, num, tk, tks, uk, uks, label, place, ks⟩ := t
  refine ACall.body tab_ok (ρ := 0) (N := 7) Tryz.func27 rfl rfl rfl rfl rfl ?_
  repeat' first | refine AW.seq ?_ | refine AW.block ?_ | ((first | refine AW.region tab_ok ?_ | refine AW.cond ?_ | refine AW.skip ?_ | refine AW.ret ?_ | refine AW.exit ?_); conv => whnf) | (refine (c1).mono ?_; rintro _ _ ⟨rfl, rfl⟩; conv => whnf) | ((first | refine And.intro (@rfl Val _) ?_ | refine And.intro (by decide) ?_ | refine cs (fun _ => ?_) (fun _ => ?_)) <;> conv => whnf)
  · rename_i h
    have := of_decide_eq_true h
    refine ⟨?_, rfl⟩
    simp only [oneOf]
    rw [if_pos (by omega)]
    rfl
  · rename_i h
    have := of_decide_eq_false h
    refine (c3 (by omega)).mono ?_
    rintro _ _ ⟨rfl, rfl⟩
    conv => whnf
    repeat' first | refine AW.seq ?_ | refine AW.block ?_ | ((first | refine AW.region tab_ok ?_ | refine AW.cond ?_ | refine AW.skip ?_ | refine AW.ret ?_ | refine AW.exit ?_); conv => whnf) | ((first | refine And.intro (@rfl Val _) ?_ | refine And.intro (by decide) ?_ | refine cs (fun _ => ?_) (fun _ => ?_)) <;> conv => whnf)
    refine ⟨?_, rfl⟩
    simp only [oneOf]
    rw [if_neg (by omega)]
/-- n + the size, or more than 8192. -/
def sizeR (n s : Nat) (r : Nat) : Prop := (n + s ≤ 8192 ∧ r = n + s) ∨ (8192 < n + s ∧ 8192 < r ∧ r ≤ 30000)
structure RCountI (ks : List Tm) (m : Nat) where
  i : Nat
  hi : i ≤ ks.length
  r : Nat
  h : sizeR m (tmNL (ks.take i)) r
noncomputable def rest76 : Code := match Tryz.f94.body with
  | some (.seq _ (.seq _ (.seq _ (.seq _ c)))) => c
  | _ => .skip
set_option maxRecDepth 10000 in
theorem rcount_rest (k : Int) (name arg : ByteArray) (num tk : Int) (tks : List Ty) (uk : Int) (uks : List Ty) (label place : Int) (ks : List Tm) (m : Nat) (hm : m ≤ 30000)
    (ih : ∀ t ∈ ks, ∀ n : Nat, n ≤ 8192 → ACall Tryz.prog 94 [t.val, .c (.d (.int .i64 n))] [] (fun o σ => ∃ r : Nat, sizeR n (tmN t) r ∧ o = .ret (.c (.d (.int .i64 r))) ∧ σ = [])) :
    AW Tryz.prog tab 0 rest76 ⟨43, [(1, .c (.d (.int .i64 m))), (2, .c (.ptr 0 0))], [.var [.d (.int .i8 k), .d (.str name), .d (.str arg), .d (.int .i64 num), .d (.int .i8 tk), .d (.sl 0 2 (Ty.rows tks)), .d (.int .i8 uk), .d (.sl 0 2 (Ty.rows uks)), .d (.int .i64 label), .d (.int .i64 place), .d (.sl 0 11 (Tm.rows ks))]], []⟩
      (afin tab 0 94 [.tmp 4] 0 (fun o σ => ∃ r : Nat, sizeR m (tmNL ks) r ∧ o = .ret (.c (.d (.int .i64 r))) ∧ σ = [])) := by
  repeat' first | refine AW.seq ?_ | refine AW.block ?_ | ((first | refine AW.region tab_ok ?_ | refine AW.cond ?_ | refine AW.skip ?_ | refine AW.ret ?_ | refine AW.exit ?_); conv => whnf) | ((first | refine And.intro (@rfl Val _) ?_ | refine And.intro (by decide) ?_ | refine cs (fun _ => ?_) (fun _ => ?_)) <;> conv => whnf)
  refine AW.loop (ι := RCountI ks m) (fun x => ⟨43, [(5, .c (.d (.int .i64 x.i))), (1, .c (.d (.int .i64 x.r))), (2, .c (.ptr 0 0))], [.var [.d (.int .i8 k), .d (.str name), .d (.str arg), .d (.int .i64 num), .d (.int .i8 tk), .d (.sl 0 2 (Ty.rows tks)), .d (.int .i8 uk), .d (.sl 0 2 (Ty.rows uks)), .d (.int .i64 label), .d (.int .i64 place), .d (.sl 0 11 (Tm.rows ks))]], []⟩)
    (fun x => ks.length - x.i) ⟨0, Nat.zero_le _, m, by unfold sizeR; simp [tmNL]; omega⟩ 1 (fun _ => rfl) (Nat.le_of_ble_eq_true rfl) ⟨⟨rfl, rfl, rfl, trivial⟩, rfl, rfl, ⟨[], rfl⟩, rfl⟩ (fun x => ?_)
  obtain ⟨i, hi, r, hr⟩ := x
  repeat' first | refine AW.seq ?_ | refine AW.block ?_ | ((first | refine AW.region tab_ok ?_ | refine AW.cond ?_ | refine AW.skip ?_ | refine AW.ret ?_ | refine AW.exit ?_); conv => whnf) | ((first | refine And.intro (@rfl Val _) ?_ | refine And.intro (by decide) ?_ | refine cs (fun _ => ?_) (fun _ => ?_)) <;> conv => whnf)
  · rename_i h1 h2
    simp only [trows_length] at h1 ⊢
    have := of_decide_eq_true h1
    have h2 : decide ((r : Int) ≤ 8192) = true := h2
    have h2 := of_decide_eq_true h2
    refine ⟨by omega, fun row hrow => ?_⟩
    obtain ⟨t, ht, rfl⟩ := trows_get ks i row (by simpa using hrow)
    have hlt : i < ks.length := (List.getElem?_eq_some_iff.1 ht).1
    have hmem := List.mem_of_getElem? ht
    have hnt := tmNL_take ks i _ ht
    have hc := ih t hmem r (by omega)
    generalize hN : tmN t = nn at hc
    obtain ⟨k', name', arg', num', tk', tks', uk', uks', label', place', ks'⟩ := t
    conv => whnf
    repeat' first | refine AW.seq ?_ | refine AW.block ?_ | ((first | refine AW.region tab_ok ?_ | refine AW.cond ?_ | refine AW.skip ?_ | refine AW.ret ?_ | refine AW.exit ?_); conv => whnf) | ((first | refine And.intro (@rfl Val _) ?_ | refine And.intro (by decide) ?_ | refine cs (fun _ => ?_) (fun _ => ?_)) <;> conv => whnf)
    refine hc.mono ?_
    rintro _ _ ⟨r', hr', rfl, rfl⟩
    conv => whnf
    repeat' first | refine AW.seq ?_ | refine AW.block ?_ | ((first | refine AW.region tab_ok ?_ | refine AW.cond ?_ | refine AW.skip ?_ | refine AW.ret ?_ | refine AW.exit ?_); conv => whnf) | ((first | refine And.intro (@rfl Val _) ?_ | refine And.intro (by decide) ?_ | refine cs (fun _ => ?_) (fun _ => ?_)) <;> conv => whnf)
    have htl := tmNL_len (ks.take i)
    simp only [List.length_take] at htl
    unfold sizeR at hr hr'
    rw [wrap64 (x := (i : Int) + 1) (by omega) (by omega)]
    exact ⟨⟨i + 1, hlt, r', by unfold sizeR; omega⟩, ⟨⟨rfl, rfl, rfl, trivial⟩, rfl, rfl, ⟨[], rfl⟩, rfl⟩, show ks.length - (i + 1) < ks.length - i by omega⟩
  · rename_i h1 h2
    have h2 : decide ((r : Int) ≤ 8192) = false := h2
    have h2 := of_decide_eq_false h2
    have := tmNL_le ks i
    unfold sizeR at hr
    exact ⟨r, by unfold sizeR; omega, rfl, rfl⟩
  · rename_i h1
    simp only [trows_length] at h1
    have := of_decide_eq_false h1
    obtain rfl : i = ks.length := by omega
    simp only [List.take_length] at hr
    exact ⟨r, hr, rfl, rfl⟩
set_option maxRecDepth 10000 in
theorem rtcount_call (t : Tm) : ∀ n : Nat, n ≤ 8192 → ACall Tryz.prog 94 [t.val, .c (.d (.int .i64 n))] [] (fun o σ => ∃ r : Nat, sizeR n (tmN t) r ∧ o = .ret (.c (.d (.int .i64 r))) ∧ σ = []) := by
  induction t using Tm.ind with
  | _ k name arg num tk tks uk uks label place ks ih =>
  intro n hn
  have fin : ∀ (m : Nat), m ≤ 30000 → n + tmN (.node k name arg num tk tks uk uks label place ks) = m + tmNL ks → ∀ env, get env 1 = .c (.d (.int .i64 m)) → get env 2 = .c (.ptr 0 0) →
      AW Tryz.prog tab 0 rest76 ⟨43, env, [.var [.d (.int .i8 k), .d (.str name), .d (.str arg), .d (.int .i64 num), .d (.int .i8 tk), .d (.sl 0 2 (Ty.rows tks)), .d (.int .i8 uk), .d (.sl 0 2 (Ty.rows uks)), .d (.int .i64 label), .d (.int .i64 place), .d (.sl 0 11 (Tm.rows ks))]], []⟩ (afin tab 0 94 Tryz.f94.results.toList ([] : List AObj).length (fun o σ => ∃ r : Nat, sizeR n (tmN (.node k name arg num tk tks uk uks label place ks)) r ∧ o = .ret (.c (.d (.int .i64 r))) ∧ σ = [])) := fun m hm hnm env g1 g2 => by
    have e : (fun (o : Out) (σ : List AObj) => ∃ r : Nat, sizeR n (tmN (.node k name arg num tk tks uk uks label place ks)) r ∧ o = .ret (.c (.d (.int .i64 r))) ∧ σ = []) = (fun o σ => ∃ r : Nat, sizeR m (tmNL ks) r ∧ o = .ret (.c (.d (.int .i64 r))) ∧ σ = []) := by
      funext o σ
      have : ∀ r, sizeR n (tmN (.node k name arg num tk tks uk uks label place ks)) r ↔ sizeR m (tmNL ks) r := fun r => by unfold sizeR; rw [hnm]
      simp only [this]
    rw [e]
    refine AW.fits ?_ ?_ (rcount_rest k name arg num tk tks uk uks label place ks m hm ih)
    · exact ⟨⟨g1, g2, trivial⟩, rfl, rfl, ⟨[], rfl⟩, rfl⟩
    · rfl
  refine ACall.body tab_ok (ρ := 0) (N := 43) Tryz.func94 rfl rfl rfl rfl rfl ?_
  refine AW.seq ?_
  refine AW.region tab_ok ?_; conv => whnf
  refine AW.seq ?_
  refine AW.region tab_ok ?_; conv => whnf
  rw [wrap64 (x := (n : Int) + 1) (by omega) (by omega)]
  refine AW.seq ?_
  refine AW.seq ?_
  refine AW.region tab_ok ?_; conv => whnf
  refine (rhasType_call k).mono ?_
  rintro _ _ ⟨rfl, rfl⟩
  conv => whnf
  refine AW.cond ?_; conv => whnf
  refine cs (fun h1 => ?_) (fun h1 => ?_) <;> conv => whnf
  · refine AW.region tab_ok ?_; conv => whnf
    refine (rnodes_call (.node tk tks)).mono ?_
    rintro _ _ ⟨rfl, rfl⟩
    conv => whnf
    rw [wrap64 (x := (n : Int) + 1 + ((min (nodes (.node tk tks)) 8193 : Nat) : Int)) (by omega) (by omega)]
    refine AW.seq ?_
    refine AW.seq ?_
    refine AW.region tab_ok ?_; conv => whnf
    refine (rhasTo_call k).mono ?_
    rintro _ _ ⟨rfl, rfl⟩
    conv => whnf
    refine AW.cond ?_; conv => whnf
    refine cs (fun h2 => ?_) (fun h2 => ?_) <;> conv => whnf
    · refine AW.region tab_ok ?_; conv => whnf
      refine (rnodes_call (.node uk uks)).mono ?_
      rintro _ _ ⟨rfl, rfl⟩
      conv => whnf
      exact fin (n + 1 + min (nodes (.node tk tks)) 8193 + min (nodes (.node uk uks)) 8193) (by omega) (by simp only [tmN, h1, h2]; simp only [if_true, if_false, Bool.false_eq_true]; omega) _ (by show Val.c (.d (.int .i64 (IntKind.i64.wrap _))) = _; rw [wrap64 (by omega) (by omega)]; rfl) rfl
    · refine AW.skip ?_; conv => whnf
      exact fin (n + 1 + min (nodes (.node tk tks)) 8193) (by omega) (by simp only [tmN, h1, h2]; simp only [if_true, if_false, Bool.false_eq_true]; omega) _ rfl rfl
  · refine AW.skip ?_; conv => whnf
    refine AW.seq ?_
    refine AW.seq ?_
    refine AW.region tab_ok ?_; conv => whnf
    refine (rhasTo_call k).mono ?_
    rintro _ _ ⟨rfl, rfl⟩
    conv => whnf
    refine AW.cond ?_; conv => whnf
    refine cs (fun h2 => ?_) (fun h2 => ?_) <;> conv => whnf
    · refine AW.region tab_ok ?_; conv => whnf
      refine (rnodes_call (.node uk uks)).mono ?_
      rintro _ _ ⟨rfl, rfl⟩
      conv => whnf
      exact fin (n + 1 + min (nodes (.node uk uks)) 8193) (by omega) (by simp only [tmN, h1, h2]; simp only [if_true, if_false, Bool.false_eq_true]; omega) _ (by show Val.c (.d (.int .i64 (IntKind.i64.wrap _))) = _; rw [wrap64 (by omega) (by omega)]; rfl) rfl
    · refine AW.skip ?_; conv => whnf
      exact fin (n + 1) (by omega) (by simp only [tmN, h1, h2]; simp only [if_true, if_false, Bool.false_eq_true]; omega) _ rfl rfl
end Go.Proofs.YtmaokphbfjpodaaGreatDoor.E

/- Walks: ref Nodes, deep, Depth of terms. No conditions. -/
set_option linter.unusedVariables false
set_option linter.unusedSimpArgs false
namespace Go.Proofs.YtmaokphbfjpodaaGreatDoor.E
open Go

set_option maxRecDepth 10000 in
theorem rtnodes_call (t : Tm) : ACall Tryz.prog 42 [t.val] [] (fun o σ => o = .ret (.c (.d (.int .i64 (min (tmN t) 8193 : Nat)))) ∧ σ = []) := by
  have cc := rtcount_call t 0 (by omega)
  generalize tmN t = nn at *
  obtain ⟨k, name, arg, num, tk, tks, uk, uks, label, place, ks⟩ := t
  refine ACall.body tab_ok (ρ := 0) (N := 6) Tryz.func42 rfl rfl rfl rfl rfl ?_
  repeat' first | refine AW.seq ?_ | refine AW.block ?_ | ((first | refine AW.region tab_ok ?_ | refine AW.cond ?_ | refine AW.skip ?_ | refine AW.ret ?_ | refine AW.exit ?_); conv => whnf) | ((first | refine And.intro (@rfl Val _) ?_ | refine And.intro (by decide) ?_ | refine cs (fun _ => ?_) (fun _ => ?_)) <;> conv => whnf)
  refine cc.mono ?_
  rintro _ _ ⟨r, hr, rfl, rfl⟩
  conv => whnf
  repeat' first | refine AW.seq ?_ | refine AW.block ?_ | ((first | refine AW.region tab_ok ?_ | refine AW.cond ?_ | refine AW.skip ?_ | refine AW.ret ?_ | refine AW.exit ?_); conv => whnf) | ((first | refine And.intro (@rfl Val _) ?_ | refine And.intro (by decide) ?_ | refine cs (fun _ => ?_) (fun _ => ?_)) <;> conv => whnf)
  refine ⟨?_, rfl⟩
  unfold sizeR at hr
  simp only [oneOf]
  rw [show min (r : Int) 8193 = (min nn 8193 : Nat) by omega]
noncomputable def rest78 : Code := match Tryz.f95.body with
  | some (.seq _ (.seq _ (.seq _ (.seq _ (.seq _ c))))) => c
  | _ => .skip
set_option maxRecDepth 10000 in
theorem rdeep_rest (k : Int) (name arg : ByteArray) (num tk : Int) (tks : List Ty) (uk : Int) (uks : List Ty) (label place : Int) (ks : List Tm) (most d0 : Nat) (hd : d0 ≤ 201) (h1 : 1 < most) (hm : most ≤ 201) (hlen : ks.length ≤ 8192)
    (ih : ∀ t ∈ ks, ∀ most : Nat, most ≤ 201 → ACall Tryz.prog 95 [t.val, .c (.d (.int .i64 most))] [] (fun o σ => o = .ret (.c (.d (.int .i64 (tmD t most)))) ∧ σ = [])) :
    AW Tryz.prog tab 0 rest78 ⟨47, [(1, .c (.d (.int .i64 most))), (2, .c (.ptr 0 0)), (5, .c (.d (.int .i64 d0)))], [.var [.d (.int .i8 k), .d (.str name), .d (.str arg), .d (.int .i64 num), .d (.int .i8 tk), .d (.sl 0 2 (Ty.rows tks)), .d (.int .i8 uk), .d (.sl 0 2 (Ty.rows uks)), .d (.int .i64 label), .d (.int .i64 place), .d (.sl 0 11 (Tm.rows ks))]], []⟩
      (afin tab 0 95 [.tmp 4] 0 (fun o σ => o = .ret (.c (.d (.int .i64 (min (max d0 (tmDL ks (most - 1)) + 1) most : Nat)))) ∧ σ = [])) := by
  repeat' first | refine AW.seq ?_ | refine AW.block ?_ | ((first | refine AW.region tab_ok ?_ | refine AW.cond ?_ | refine AW.skip ?_ | refine AW.ret ?_ | refine AW.exit ?_); conv => whnf) | ((first | refine And.intro (@rfl Val _) ?_ | refine And.intro (by decide) ?_ | refine cs (fun _ => ?_) (fun _ => ?_)) <;> conv => whnf)
  refine AW.loop (ι := UpToT ks) (fun x => ⟨47, [(6, .c (.d (.int .i64 x.i))), (1, .c (.d (.int .i64 most))), (2, .c (.ptr 0 0)), (5, .c (.d (.int .i64 (max d0 (tmDL (ks.take x.i) (most - 1)) : Nat))))],
      [.var [.d (.int .i8 k), .d (.str name), .d (.str arg), .d (.int .i64 num), .d (.int .i8 tk), .d (.sl 0 2 (Ty.rows tks)), .d (.int .i8 uk), .d (.sl 0 2 (Ty.rows uks)), .d (.int .i64 label), .d (.int .i64 place), .d (.sl 0 11 (Tm.rows ks))]], []⟩)
    (fun x => ks.length - x.i) ⟨0, Nat.zero_le _⟩ 1 (fun _ => rfl) (Nat.le_of_ble_eq_true rfl) ⟨⟨rfl, rfl, rfl, ?_, trivial⟩, rfl, rfl, ⟨[], rfl⟩, rfl⟩ (fun x => ?_)
  · show Val.c (.d (.int .i64 _)) = Val.c (.d (.int .i64 _))
    simp [tmDL]
  obtain ⟨i, hi⟩ := x
  repeat' first | refine AW.seq ?_ | refine AW.block ?_ | ((first | refine AW.region tab_ok ?_ | refine AW.cond ?_ | refine AW.skip ?_ | refine AW.ret ?_ | refine AW.exit ?_); conv => whnf) | ((first | refine And.intro (@rfl Val _) ?_ | refine And.intro (by decide) ?_ | refine cs (fun _ => ?_) (fun _ => ?_)) <;> conv => whnf)
  · rename_i h2
    simp only [trows_length] at h2 ⊢
    have := of_decide_eq_true h2
    refine ⟨by omega, fun row hrow => ?_⟩
    obtain ⟨t, ht, rfl⟩ := trows_get ks i row (by simpa using hrow)
    have hlt : i < ks.length := (List.getElem?_eq_some_iff.1 ht).1
    have hmem := List.mem_of_getElem? ht
    have hc := ih t hmem (most - 1) (by omega)
    have hn := tmDL_take (most - 1) ks i _ ht
    generalize tmD t (most - 1) = dd at hc hn
    obtain ⟨k', name', arg', num', tk', tks', uk', uks', label', place', ks'⟩ := t
    conv => whnf
    repeat' first | refine AW.seq ?_ | refine AW.block ?_ | ((first | refine AW.region tab_ok ?_ | refine AW.cond ?_ | refine AW.skip ?_ | refine AW.ret ?_ | refine AW.exit ?_); conv => whnf) | ((first | refine And.intro (@rfl Val _) ?_ | refine And.intro (by decide) ?_ | refine cs (fun _ => ?_) (fun _ => ?_)) <;> conv => whnf)
    rw [wrap64 (by omega) (by omega), show (most : Int) - 1 = ((most - 1 : Nat) : Int) by omega]
    refine hc.mono ?_
    rintro _ _ ⟨rfl, rfl⟩
    conv => whnf
    repeat' first | refine AW.seq ?_ | refine AW.block ?_ | ((first | refine AW.region tab_ok ?_ | refine AW.cond ?_ | refine AW.skip ?_ | refine AW.ret ?_ | refine AW.exit ?_); conv => whnf) | ((first | refine And.intro (@rfl Val _) ?_ | refine And.intro (by decide) ?_ | refine cs (fun _ => ?_) (fun _ => ?_)) <;> conv => whnf)
    rw [wrap64 (x := (i : Int) + 1) (by omega) (by omega), show max ((max d0 (tmDL (List.take i ks) (most - 1)) : Nat) : Int) (dd : Int) = (max d0 (tmDL (List.take (i + 1) ks) (most - 1)) : Nat) by rw [hn]; omega]
    exact ⟨⟨i + 1, hlt⟩, ⟨⟨rfl, rfl, rfl, rfl, trivial⟩, rfl, rfl, ⟨[], rfl⟩, rfl⟩, show ks.length - (i + 1) < ks.length - i by omega⟩
  · rename_i h2
    simp only [trows_length] at h2
    have := of_decide_eq_false h2
    obtain rfl : i = ks.length := by omega
    simp only [List.take_length]
    refine ⟨?_, rfl⟩
    have hle : tmDL ks (most - 1) ≤ most - 1 := tmDL_le ks (most - 1)
    simp only [oneOf]
    rw [wrap64 (by omega) (by omega)]
    rw [show min (1 + ((max d0 (tmDL ks (most - 1)) : Nat) : Int)) (most : Int) = (min (max d0 (tmDL ks (most - 1)) + 1) most : Nat) by omega]
set_option maxRecDepth 10000 in
theorem rtdeep_call (t : Tm) : tmN t ≤ 8192 → ∀ most : Nat, most ≤ 201 → ACall Tryz.prog 95 [t.val, .c (.d (.int .i64 most))] [] (fun o σ => o = .ret (.c (.d (.int .i64 (tmD t most)))) ∧ σ = []) := by
  induction t using Tm.ind with
  | _ k name arg num tk tks uk uks label place ks ih =>
  intro hN most hm
  have hlen := tmNL_len ks
  simp only [tmN] at hN
  have ih' : ∀ t ∈ ks, ∀ most : Nat, most ≤ 201 → ACall Tryz.prog 95 [t.val, .c (.d (.int .i64 most))] [] (fun o σ => o = .ret (.c (.d (.int .i64 (tmD t most)))) ∧ σ = []) := fun t ht => ih t ht (by have := tmN_mem ks t ht; omega)
  refine ACall.body tab_ok (ρ := 0) (N := 47) Tryz.func95 rfl rfl rfl rfl rfl ?_
  refine AW.seq ?_
  refine AW.region tab_ok ?_; conv => whnf
  refine AW.seq ?_
  refine AW.seq ?_
  refine AW.region tab_ok ?_; conv => whnf
  refine AW.cond ?_; conv => whnf
  refine cs (fun h2 => ?_) (fun h2 => ?_) <;> conv => whnf
  · skip
    repeat' first | refine AW.seq ?_ | refine AW.block ?_ | ((first | refine AW.region tab_ok ?_ | refine AW.cond ?_ | refine AW.skip ?_ | refine AW.ret ?_ | refine AW.exit ?_); conv => whnf) | ((first | refine And.intro (@rfl Val _) ?_ | refine And.intro (by decide) ?_ | refine cs (fun _ => ?_) (fun _ => ?_)) <;> conv => whnf)
    have : most ≤ 1 := by have := of_decide_eq_true h2; omega
    refine ⟨?_, rfl⟩
    simp only [oneOf, tmD]
    rw [if_pos this]
  · have hgt : 1 < most := by have := of_decide_eq_false h2; omega
    refine AW.skip ?_; conv => whnf
    refine AW.seq ?_
    refine AW.region tab_ok ?_; conv => whnf
    have fin : ∀ (d0 : Nat), d0 ≤ 201 → d0 = max (if typeK k = true then tdepth (.node tk tks) else 0) (if toK k = true then tdepth (.node uk uks) else 0) → ∀ env, get env 1 = .c (.d (.int .i64 most)) → get env 2 = .c (.ptr 0 0) → get env 5 = .c (.d (.int .i64 d0)) →
        AW Tryz.prog tab 0 rest78 ⟨47, env, [.var [.d (.int .i8 k), .d (.str name), .d (.str arg), .d (.int .i64 num), .d (.int .i8 tk), .d (.sl 0 2 (Ty.rows tks)), .d (.int .i8 uk), .d (.sl 0 2 (Ty.rows uks)), .d (.int .i64 label), .d (.int .i64 place), .d (.sl 0 11 (Tm.rows ks))]], []⟩ (afin tab 0 95 Tryz.f95.results.toList ([] : List AObj).length (fun o σ => o = .ret (.c (.d (.int .i64 (tmD (.node k name arg num tk tks uk uks label place ks) most)))) ∧ σ = [])) := fun d0 hd he env g1 g2 g5 => by
      have ed : tmD (.node k name arg num tk tks uk uks label place ks) most = min (max d0 (tmDL ks (most - 1)) + 1) most := by
        simp only [tmD]
        rw [if_neg (by omega), ← he]
      rw [ed]
      refine AW.fits ?_ ?_ (rdeep_rest k name arg num tk tks uk uks label place ks most d0 hd hgt hm (by omega) ih')
      · exact ⟨⟨g1, g2, g5, trivial⟩, rfl, rfl, ⟨[], rfl⟩, rfl⟩
      · rfl
    refine AW.seq ?_
    refine AW.seq ?_
    refine AW.region tab_ok ?_; conv => whnf
    refine (rhasType_call k).mono ?_
    rintro _ _ ⟨rfl, rfl⟩
    conv => whnf
    refine AW.cond ?_; conv => whnf
    refine cs (fun h3 => ?_) (fun h3 => ?_) <;> conv => whnf
    · refine AW.region tab_ok ?_; conv => whnf
      refine (rdepth_call (.node tk tks)).mono ?_
      rintro _ _ ⟨rfl, rfl⟩
      conv => whnf
      have e0 : max (0 : Int) (tdepth (.node tk tks) : Int) = ((tdepth (.node tk tks) : Nat) : Int) := by omega
      rw [e0]
      refine AW.seq ?_
      refine AW.seq ?_
      refine AW.region tab_ok ?_; conv => whnf
      refine (rhasTo_call k).mono ?_
      rintro _ _ ⟨rfl, rfl⟩
      conv => whnf
      refine AW.cond ?_; conv => whnf
      refine cs (fun h4 => ?_) (fun h4 => ?_) <;> conv => whnf
      · refine AW.region tab_ok ?_; conv => whnf
        refine (rdepth_call (.node uk uks)).mono ?_
        rintro _ _ ⟨rfl, rfl⟩
        conv => whnf
        have e5 : max ((tdepth (.node tk tks) : Int)) (tdepth (.node uk uks) : Int) = ((max (tdepth (.node tk tks)) (tdepth (.node uk uks)) : Nat) : Int) := by omega
        rw [e5]
        exact fin _ (by have := tdepth_le (.node tk tks); have := tdepth_le (.node uk uks); omega) (by simp [h3, h4]) _ rfl rfl rfl
      · refine AW.skip ?_; conv => whnf
        skip
        exact fin (tdepth (.node tk tks)) (by have := tdepth_le (.node tk tks); omega) (by simp [h3, h4]) _ rfl rfl rfl
    · refine AW.skip ?_; conv => whnf
      refine AW.seq ?_
      refine AW.seq ?_
      refine AW.region tab_ok ?_; conv => whnf
      refine (rhasTo_call k).mono ?_
      rintro _ _ ⟨rfl, rfl⟩
      conv => whnf
      refine AW.cond ?_; conv => whnf
      refine cs (fun h4 => ?_) (fun h4 => ?_) <;> conv => whnf
      · refine AW.region tab_ok ?_; conv => whnf
        refine (rdepth_call (.node uk uks)).mono ?_
        rintro _ _ ⟨rfl, rfl⟩
        conv => whnf
        have e5 : max (0 : Int) (tdepth (.node uk uks) : Int) = ((max 0 (tdepth (.node uk uks)) : Nat) : Int) := by omega
        rw [e5]
        exact fin _ (by have := tdepth_le (.node tk tks); have := tdepth_le (.node uk uks); omega) (by simp [h3, h4]) _ rfl rfl rfl
      · refine AW.skip ?_; conv => whnf
        skip
        exact fin 0 (by have := tdepth_le (.node tk tks); omega) (by simp [h3, h4]) _ rfl rfl rfl
set_option maxRecDepth 10000 in
theorem rtDepth_call (t : Tm) : ACall Tryz.prog 43 [t.val] [] (fun o σ => o = .ret (.c (.d (.int .i64 (tmDepth t)))) ∧ σ = []) := by
  have c1 := rtnodes_call t
  have c2 := rtdeep_call t
  have e : tmDepth t = if tmN t > 8192 then 201 else tmD t 201 := rfl
  rw [e]
  generalize tmN t = nn at *
  generalize hd : tmD t 201 = dd
  have c3 : nn ≤ 8192 → ACall Tryz.prog 95 [t.val, .c (.d (.int .i64 201))] [] (fun o σ => o = .ret (.c (.d (.int .i64 dd))) ∧ σ = []) := fun h => by
    rw [← hd]; exact c2 h 201 (by omega)
  obtain ⟨k, name, arg, num, tk, tks, uk, uks, label, place, ks⟩ := t
  refine ACall.body tab_ok (ρ := 0) (N := 8) Tryz.func43 rfl rfl rfl rfl rfl ?_
  repeat' first | refine AW.seq ?_ | refine AW.block ?_ | ((first | refine AW.region tab_ok ?_ | refine AW.cond ?_ | refine AW.skip ?_ | refine AW.ret ?_ | refine AW.exit ?_); conv => whnf) | (refine (c1).mono ?_; rintro _ _ ⟨rfl, rfl⟩; conv => whnf) | ((first | refine And.intro (@rfl Val _) ?_ | refine And.intro (by decide) ?_ | refine cs (fun _ => ?_) (fun _ => ?_)) <;> conv => whnf)
  · rename_i h
    have := of_decide_eq_true h
    refine ⟨?_, rfl⟩
    simp only [oneOf]
    rw [if_pos (by omega)]
    rfl
  · rename_i h
    have := of_decide_eq_false h
    refine (c3 (by omega)).mono ?_
    rintro _ _ ⟨rfl, rfl⟩
    conv => whnf
    repeat' first | refine AW.seq ?_ | refine AW.block ?_ | ((first | refine AW.region tab_ok ?_ | refine AW.cond ?_ | refine AW.skip ?_ | refine AW.ret ?_ | refine AW.exit ?_); conv => whnf) | ((first | refine And.intro (@rfl Val _) ?_ | refine And.intro (by decide) ?_ | refine cs (fun _ => ?_) (fun _ => ?_)) <;> conv => whnf)
    refine ⟨?_, rfl⟩
    simp only [oneOf]
    rw [if_neg (by omega)]
end Go.Proofs.YtmaokphbfjpodaaGreatDoor.E

/- Walks: right of terms. No conditions. -/
set_option linter.unusedVariables false
set_option linter.unusedSimpArgs false
namespace Go.Proofs.YtmaokphbfjpodaaGreatDoor.E
open Go

def opsF : List ByteArray := [⟨#[43]⟩, ⟨#[45]⟩, ⟨#[42]⟩, ⟨#[47]⟩, ⟨#[60]⟩, ⟨#[61]⟩]
def opF (s : ByteArray) : Bool := opsF.any (fun k => decide (s = k))
/-- A term's own cells are right. -/
def ownRight : Tm → Bool
  | .node k name arg num tk tks uk uks label place ks =>
    decide (kidsK k = ks.length) && (!decide (k = 17) || (!decide (label = 0) && decide (-2147483648 ≤ label) && decide (label ≤ 2147483648)))
      && (!nameK k || nameF name) && (!argK k || nameF arg) && (!typeK k || decide (tcheck (.node tk tks) = 0)) && (!toK k || decide (tcheck (.node uk uks) = 0)) && (!decide (k = 15) || opF name)
mutual
def tmright : Tm → Bool
  | .node k name arg num tk tks uk uks label place ks => ownRight (.node k name arg num tk tks uk uks label place ks) && tmrights ks
def tmrights : List Tm → Bool
  | [] => true
  | t :: l => tmright t && tmrights l
end
theorem tmrights_all : ∀ (ks : List Tm), tmrights ks = true ↔ ∀ t ∈ ks, tmright t = true
  | [] => by simp [tmrights]
  | t :: l => by simp [tmrights, tmrights_all l]
end Go.Proofs.YtmaokphbfjpodaaGreatDoor.E

/- Walk: terms.right. No conditions. -/
set_option linter.unusedVariables false
set_option linter.unusedSimpArgs false
namespace Go.Proofs.YtmaokphbfjpodaaGreatDoor.E
open Go

theorem kinds (k : Int) (h : validK k = true) : k = 0 ∨ k = 1 ∨ k = 2 ∨ k = 3 ∨ k = 4 ∨ k = 5 ∨ k = 6 ∨ k = 7 ∨ k = 8 ∨ k = 9 ∨ k = 10 ∨ k = 11 ∨ k = 12 ∨ k = 13 ∨ k = 14 ∨ k = 15 ∨ k = 16 ∨ k = 17 := by
  simp [validK] at h; omega
end Go.Proofs.YtmaokphbfjpodaaGreatDoor.E

/- Walk: terms.right. No conditions. -/
set_option linter.unusedVariables false
set_option linter.unusedSimpArgs false
namespace Go.Proofs.YtmaokphbfjpodaaGreatDoor.E
open Go

end Go.Proofs.YtmaokphbfjpodaaGreatDoor.E

/- Walk: ref right of terms. No conditions. -/
set_option linter.unusedVariables false
set_option linter.unusedSimpArgs false
namespace Go.Proofs.YtmaokphbfjpodaaGreatDoor.E
open Go

end Go.Proofs.YtmaokphbfjpodaaGreatDoor.E

/- Walks: Check of terms, both; the law TermsCheck. No conditions. -/
set_option linter.unusedVariables false
set_option linter.unusedSimpArgs false
namespace Go.Proofs.YtmaokphbfjpodaaGreatDoor.E
open Go

end Go.Proofs.YtmaokphbfjpodaaGreatDoor.E

/- Walks: less of both; Less of both; the law. No conditions. -/
set_option linter.unusedVariables false
set_option linter.unusedSimpArgs false
namespace Go.Proofs.YtmaokphbfjpodaaGreatDoor.E
open Go

theorem tright_len {k : Int} {ks : List Ty} (h : tright (.node k ks) = true) : parts k = ks.length := by
  simp [tright] at h; exact h.1
theorem tright_kid {k : Int} {ks : List Ty} (h : tright (.node k ks) = true) {t : Ty} (ht : t ∈ ks) : tright t = true := by
  simp [tright] at h
  exact (trights_all ks).1 h.2 t ht
/-! ### less, Less -/
theorem tcheck_right {t : Ty} (h : tcheck t = 0) : tright t = true := by
  unfold tcheck at h
  split at h
  · cases h
  · split at h
    · cases h
    · split at h
      · assumption
      · cases h
end Go.Proofs.YtmaokphbfjpodaaGreatDoor.E

/- Walks: types.equal, Same; the law OrderGoes. No conditions. -/
set_option linter.unusedVariables false
set_option linter.unusedSimpArgs false
namespace Go.Proofs.YtmaokphbfjpodaaGreatDoor.E
open Go

/-! ### An order -/
end Go.Proofs.YtmaokphbfjpodaaGreatDoor.E

/- Walks: Same of types in the document's answer; same of terms, both. No conditions. -/
set_option linter.unusedVariables false
set_option linter.unusedSimpArgs false
namespace Go.Proofs.YtmaokphbfjpodaaGreatDoor.E
open Go

/-! ### Same of types, the document's -/
/-! ### Same of terms -/
theorem kidsK_le (k : Int) : kidsK k ≤ 3 := by
  unfold kidsK
  repeat (split <;> try omega)
end Go.Proofs.YtmaokphbfjpodaaGreatDoor.E

/- Walks: same of terms in the document's answer. No conditions. -/
set_option linter.unusedVariables false
set_option linter.unusedSimpArgs false
namespace Go.Proofs.YtmaokphbfjpodaaGreatDoor.E
open Go

end Go.Proofs.YtmaokphbfjpodaaGreatDoor.E

/- Walks: agree of both. No conditions. -/
set_option linter.unusedVariables false
set_option linter.unusedSimpArgs false
namespace Go.Proofs.YtmaokphbfjpodaaGreatDoor.E
open Go

end Go.Proofs.YtmaokphbfjpodaaGreatDoor.E

/- Walks: meet of both. No conditions. -/
set_option linter.unusedVariables false
set_option linter.unusedSimpArgs false
namespace Go.Proofs.YtmaokphbfjpodaaGreatDoor.E
open Go

/-! ### order.meet -/
end Go.Proofs.YtmaokphbfjpodaaGreatDoor.E

/- Walks: Meet, kind, met; the law OrderMeet. No conditions. -/
set_option linter.unusedVariables false
set_option linter.unusedSimpArgs false
namespace Go.Proofs.YtmaokphbfjpodaaGreatDoor.E
open Go

/-! ### kind, of a type and itself -/
end Go.Proofs.YtmaokphbfjpodaaGreatDoor.E

/- Walks: kind, Whole of a thing and itself; whole. No conditions. -/
set_option linter.unusedVariables false
set_option linter.unusedSimpArgs false
namespace Go.Proofs.YtmaokphbfjpodaaGreatDoor.E
open Go

/-! ### whole -/
end Go.Proofs.YtmaokphbfjpodaaGreatDoor.E

/- Walks: bare of terms, both. No conditions. -/
set_option linter.unusedVariables false
set_option linter.unusedSimpArgs false
namespace Go.Proofs.YtmaokphbfjpodaaGreatDoor.E
open Go

end Go.Proofs.YtmaokphbfjpodaaGreatDoor.E

/- Walks: order.each, Has. No conditions. -/
set_option linter.unusedVariables false
set_option linter.unusedSimpArgs false
namespace Go.Proofs.YtmaokphbfjpodaaGreatDoor.E
open Go

/-! ### Has -/
/-! ### each -/
end Go.Proofs.YtmaokphbfjpodaaGreatDoor.E
