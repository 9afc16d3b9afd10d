/- A value put for a name: plain laws; the law. No conditions. -/
import Derived.Test.YtoglfnjankinnaaPu5
set_option linter.unusedVariables false
set_option linter.unusedSimpArgs false
namespace Go.Proofs.Ytoglfnjankinnaa.E
open Go

theorem tmput_right (name : ByteArray) {v : Tm} (hv : tmright v = true) (t : Tm) : tmright t = true → tmright (tmput name v t) = true := by
  induction t using Tm.ind with
  | _ k nm arg num tk tks uk uks label place ks ih =>
  intro h
  simp only [tmput]
  split
  · split
    · exact hv
    · exact h
  · have hr : tmrights (tmputs name v k nm arg 0 ks) = true := by
      refine (tmrights_all _).2 fun x hx => ?_
      obtain ⟨j, hj⟩ := List.getElem?_of_mem hx
      rw [tmputs_get] at hj
      cases hy : ks[j]? with
      | none => rw [hy] at hj; cases hj
      | some y =>
        rw [hy] at hj
        simp only [Option.map_some, Option.some.injEq] at hj
        have hm := List.mem_of_getElem? hy
        have := tmright_kid h hm
        rw [← hj]
        split
        · exact this
        · exact ih y hm this
    simp only [tmright, ownRight, Bool.and_eq_true] at h ⊢
    rw [tmputs_len]
    exact ⟨h.1, hr⟩
theorem tmsame_refl (t : Tm) : tmright t = true → tmsame t t = true := by
  induction t using Tm.ind with
  | _ k name arg num tk tks uk uks label place ks ih =>
  intro h
  obtain ⟨o1, o2⟩ := tmright_own h
  have s1 : tmsames ks ks = true := (tmsames_all ks ks rfl).2 fun j x y hx hy => by
    rw [hx] at hy; cases hy
    exact ih x (List.mem_of_getElem? hx) (tmright_kid h (List.mem_of_getElem? hx))
  simp only [tmsame, ownSame, s1]
  cases h1 : typeK k <;> cases h2 : toK k <;> simp_all [sameS_self]
theorem put_same (t : Tm) (name : ByteArray) (v : Tm) (h : tmputE t name v = 0) : sameT (tmputT t name v) (tmputT t name v) = true := by
  have ht : tmcheck t = 0 := by
    by_cases e : tmcheck t = 0
    · exact e
    · simp [tmputE, e] at h
  have hv : tmcheck v = 0 := by
    by_cases e : tmcheck v = 0
    · exact e
    · simp [tmputE, ht, e] at h
  have hT : tmputT t name v = tmput name v t := by simp [tmputT, h]
  have hf : fitsF (tmput name v t) = 0 := by
    by_cases hl : 0 < (freeS v).length
    · simp [tmputE, ht, hv, hl] at h
    · simp [tmputE, ht, hv, hl] at h; exact h
  have hr := tmput_right name (tmcheck_ok hv).2 t (tmcheck_ok ht).2
  rw [hT]
  have hN : tmN (tmput name v t) ≤ 8192 := by
    unfold fitsF at hf
    split at hf
    · cases hf
    · omega
  have hD : tmD (tmput name v t) 201 ≤ 200 := by
    unfold fitsF at hf
    rw [if_neg (by omega)] at hf
    split at hf
    · cases hf
    · rename_i hd
      simp only [tmDepth] at hd
      rw [if_neg (by omega)] at hd
      omega
  have hc := tmcheck_of hN hD hr
  simp [sameT, hc, tmsame_refl _ hr]
theorem tmput_fine (name : ByteArray) {v : Tm} (hv : Fine2 v) (t : Tm) : Fine2 t → Fine2 (tmput name v t) := by
  induction t using Tm.ind with
  | _ k nm arg num tk tks uk uks label place ks ih =>
  rintro (⟨h1, h2, h3, h4⟩)
  simp only [tmput]
  split
  · split
    · exact hv
    · exact .node h1 h2 h3 h4
  · refine .node h1 h2 (by rw [tmputs_len]; exact h3) fun x hx => ?_
    obtain ⟨j, hj⟩ := List.getElem?_of_mem hx
    rw [tmputs_get] at hj
    cases hy : ks[j]? with
    | none => rw [hy] at hj; cases hj
    | some y =>
      rw [hy] at hj
      simp only [Option.map_some, Option.some.injEq] at hj
      have hm := List.mem_of_getElem? hy
      rw [← hj]
      split
      · exact h4 y hm
      · exact ih y hm (h4 y hm)
set_option maxRecDepth 10000 in
theorem law_ReducePut (t : Tm) (name : ByteArray) (v : Tm) (ht : TmOk t) (hv : TmOk v) : ACall Try.prog 9 [t.val, .c (.d (.str name)), v.val] [] (fun o σ => o = .ret (.c (.d (.bool true))) ∧ σ = []) := by
  have c1 := Put_call t name v (fun g g' => tmput_fine name (fine2_of v hv (tmcheck_ok g').2) t (fine2_of t ht (tmcheck_ok g).2))
  have c2 := rPut_call t name v
  by_cases h : tmputE t name v = 0
  · have c3 := rtSame_call (tmputT t name v) (tmputT t name v)
    rw [put_same t name v h] at c3
    rw [h] at c1 c2
    generalize tmputT t name v = q at *
    clear ht hv h
    obtain ⟨k, nm, arg, num, tk, tks, uk, uks, label, place, ks⟩ := t
    obtain ⟨kx, nx, gx, ux, tkx, tsx, ukx, usx, lx, px, ksx⟩ := v
    obtain ⟨kq, nq, gq, uq, tkq, tsq, ukq, usq, lq, pq, ksq⟩ := q
    refine ACall.body tab_ok (ρ := 0) (N := 56) Try.func9 rfl rfl rfl rfl rfl ?_
    repeat' first
      | refine AW.seq ?_
      | refine AW.block ?_
      | (refine AW.region tab_ok ?_; conv => whnf)
      | (refine AW.cond ?_; conv => whnf)
      | (refine AW.skip ?_; conv => whnf)
      | (refine AW.ret ?_; conv => whnf)
      | (refine AW.exit ?_; conv => whnf)
      | (refine (c1).mono ?_; rintro _ _ ⟨rfl, rfl⟩; conv => whnf)
      | (refine (c2).mono ?_; rintro _ _ ⟨rfl, rfl⟩; conv => whnf)
      | (refine (c3).mono ?_; rintro _ _ ⟨rfl, rfl⟩; conv => whnf)
      | (refine And.intro (@rfl Val _) ?_; conv => whnf)
      | (refine And.intro (by decide) ?_; conv => whnf)
      | (refine cs (fun _ => ?_) (fun _ => ?_) <;> conv => whnf)
    exact ⟨rfl, rfl⟩
  · have hT : tmputT t name v = tm0 := by simp [tmputT, h]
    rw [hT] at c1 c2
    have c3 := rtnodes_call tm0
    rw [show tmN tm0 = 1 by decide +kernel] at c3
    generalize tmputE t name v = E at *
    clear ht hv hT
    obtain ⟨k, nm, arg, num, tk, tks, uk, uks, label, place, ks⟩ := t
    obtain ⟨kx, nx, gx, ux, tkx, tsx, ukx, usx, lx, px, ksx⟩ := v
    unfold tm0 at *
    refine ACall.body tab_ok (ρ := 0) (N := 56) Try.func9 rfl rfl rfl rfl rfl ?_
    repeat' first
      | refine AW.seq ?_
      | refine AW.block ?_
      | (refine AW.region tab_ok ?_; conv => whnf)
      | (refine AW.cond ?_; conv => whnf)
      | (refine AW.skip ?_; conv => whnf)
      | (refine AW.ret ?_; conv => whnf)
      | (refine AW.exit ?_; conv => whnf)
      | (refine (c1).mono ?_; rintro _ _ ⟨rfl, rfl⟩; conv => whnf)
      | (refine (c2).mono ?_; rintro _ _ ⟨rfl, rfl⟩; conv => whnf)
      | (refine (c3).mono ?_; rintro _ _ ⟨rfl, rfl⟩; conv => whnf)
      | (refine And.intro (@rfl Val _) ?_; conv => whnf)
      | (refine And.intro (by decide) ?_; conv => whnf)
      | (refine cs (fun _ => ?_) (fun _ => ?_) <;> conv => whnf)
    · rename_i g1 g2
      exact absurd (eq_of_beq g2) h
    · exact ⟨outb (by simp), rfl⟩
    · rename_i g1 g2 g3
      simp at g3
      exact absurd g3 h
    · rename_i g1
      simp at g1
end Go.Proofs.Ytoglfnjankinnaa.E
