/- Texts, merged: Rw5, Pv10, Pv11a, TyOpen. No conditions. -/
import Derived.Test.YtlboogackecjlaaGreatRw4
import Derived.Test.YtlboogackecjlaaGreatEngX3
import Derived.Test.YtlboogackecjlaaGreatGenX10
import Derived.Test.YtlboogackecjlaaGreatGenX2
import Derived.Deep.Slices
import Derived.WideKeyArgs
import Derived.ChangeArms
import Derived.ChangeOld
import Derived.Below
/- derive, its result in blocks of its own. No conditions. -/
set_option linter.unusedVariables false
set_option linter.unusedSimpArgs false
namespace Go.Proofs.YtlboogackecjlaaGreat.E
open Go
def oTRw5_19_14 : OT := (.op 0 (.op 1 (.op 2 (.op 3 (.op 4 (.op 5 (.op 6 (.op 7 (.op 8 (.op 9 (.op 10 (.op 12 (.alt (.op 11 (.alt (.op 13 (.op 14 (.alt (.op 15 (.alt (.op 16 (.op 17 (.op 18 (.op 19 .nil)))) (.op 17 (.alt (.op 16 (.op 18 (.op 19 .nil))) (.op 18 (.op 16 (.op 19 .nil))))))) (.alt (.op 16 (.alt (.op 15 (.op 17 (.op 18 (.op 19 .nil)))) (.op 17 (.op 15 (.op 18 (.op 19 .nil)))))) (.op 17 (.alt (.op 15 (.alt (.op 16 (.op 18 (.op 19 .nil))) (.op 18 (.op 16 (.op 19 .nil))))) (.op 16 (.op 15 (.op 18 (.op 19 .nil)))))))))) (.op 17 (.op 13 (.op 14 (.alt (.op 15 (.alt (.op 16 (.op 18 (.op 19 .nil))) (.op 18 (.op 16 (.op 19 .nil))))) (.op 16 (.op 15 (.op 18 (.op 19 .nil)))))))))) (.op 17 (.op 11 (.op 13 (.op 14 (.alt (.op 15 (.alt (.op 16 (.op 18 (.op 19 .nil))) (.op 18 (.op 16 (.op 19 .nil))))) (.op 16 (.op 15 (.op 18 (.op 19 .nil))))))))))))))))))))))

theorem innerM_lenw (k : Int) (name arg : ByteArray) (T U : Ty) (l : List Bd) (i : Nat) (a : Ty) : (innerM k name arg T U l i a).length ≤ l.length + 2 := by
  unfold innerM
  split
  · simp
  · split
    · simp
    · split
      · split <;> simp
      · omega
/-- So far: i kids, their derivations, the first one's type. -/
structure DrvI (k : Int) (name arg : ByteArray) (T U : Ty) (l : List Bd) (p : Option Pf) (ks : List Tm) where
  i : Nat
  hi : i ≤ ks.length
  zs : List Pf
  hz : zs.length = i
  h : drvs k name arg T U l p ks 0 unk = (zs ++ (drvs k name arg T U l p (ks.drop i) i ((zs.map Pf.ty).headD unk)).1, (drvs k name arg T U l p (ks.drop i) i ((zs.map Pf.ty).headD unk)).2)
theorem drvs_stepw {k : Int} {name arg : ByteArray} {T U : Ty} {l : List Bd} {p : Option Pf} {ks : List Tm} {i : Nat} {t : Tm} {zs : List Pf} (ht : ks[i]? = some t) (hz : zs.length = i)
    (h : drvs k name arg T U l p ks 0 unk = (zs ++ (drvs k name arg T U l p (ks.drop i) i ((zs.map Pf.ty).headD unk)).1, (drvs k name arg T U l p (ks.drop i) i ((zs.map Pf.ty).headD unk)).2)) :
    ((drv t (innerM k name arg T U l i ((zs.map Pf.ty).headD unk)) (pkid p i)).2 = true → drvs k name arg T U l p ks 0 unk = ((zs ++ [(drv t (innerM k name arg T U l i ((zs.map Pf.ty).headD unk)) (pkid p i)).1]) ++ (drvs k name arg T U l p (ks.drop (i + 1)) (i + 1) (((zs ++ [(drv t (innerM k name arg T U l i ((zs.map Pf.ty).headD unk)) (pkid p i)).1]).map Pf.ty).headD unk)).1,
        (drvs k name arg T U l p (ks.drop (i + 1)) (i + 1) (((zs ++ [(drv t (innerM k name arg T U l i ((zs.map Pf.ty).headD unk)) (pkid p i)).1]).map Pf.ty).headD unk)).2)) ∧
    ((drv t (innerM k name arg T U l i ((zs.map Pf.ty).headD unk)) (pkid p i)).2 = false → drvs k name arg T U l p ks 0 unk = (zs, false)) := by
  have hd : ks.drop i = t :: ks.drop (i + 1) := by
    have hlt := (List.getElem?_eq_some_iff.1 ht).1
    rw [← List.getElem_cons_drop hlt, (List.getElem?_eq_some_iff.1 ht).2]
  rw [hd, drvs] at h
  generalize hq : drv t (innerM k name arg T U l i ((zs.map Pf.ty).headD unk)) (pkid p i) = q at *
  constructor
  · intro hq2
    rw [h]
    simp only [hq2, if_true]
    have e : (if i = 0 then q.1.ty else (zs.map Pf.ty).headD unk) = ((zs ++ [q.1]).map Pf.ty).headD unk := by
      cases zs with
      | nil => simp at hz; subst hz; simp
      | cons z zs => simp at hz; rw [if_neg (by omega)]; simp
    rw [e]
    simp
  · intro hq2
    rw [h]
    simp [hq2]
set_option maxRecDepth 10000 in
set_option maxHeartbeats 4000000 in
theorem derive2_call (k : Int) (hk : 0 ≤ k ∧ k ≤ 16) (name arg : ByteArray) (num tk : Int) (tks : List Ty) (uk : Int) (uks : List Ty) (label place : Int) (ks : List Tm) (l : List Bd) (hks : ks.length ≤ 8192) (hl : l.length ≤ 90000) (hn : (ks.length : Int) = kidsK k)
    (hok : ∀ L : List Pf, drvs k name arg (.node tk tks) (.node uk uks) l none ks 0 unk = (L, true) → TyOk (if k = 0 then ((findB l name).getD unk, (findB l name).isSome) else ruleM k name (.node tk tks) (.node uk uks) (L.map Pf.ty)).1)
    (G : List Bd → Prop) (hG : ∀ (i : Nat) (zs X : List Pf), (drvs k name arg (.node tk tks) (.node uk uks) l none ks 0 unk).1 = zs ++ X → G (innerM k name arg (.node tk tks) (.node uk uks) l i ((zs.map Pf.ty).headD unk)))
    (ih : ∀ t ∈ ks, ∀ (l' : List Bd), l'.length ≤ l.length + 2 → G l' → ACall Tryz.prog 19 [.c (.mp 0), .c (.d (.rp 9 (t.cellsR 9 9))), .c (.d (.sl 9 3 (bdsR 9 l'))), .c (.d .nilp)] [.mp (.int .i8) 16 rulesM]
      (fun o σ => o = .ret (.tup [(drv t l' none).1.valR 2, .c (.d (.bool (drv t l' none).2))]) ∧ σ = [.mp (.int .i8) 16 rulesM])) :
    ACall Tryz.prog 19 [.c (.mp 0), .c (.d (.rp 9 ((Tm.node k name arg num tk tks uk uks label place ks).cellsR 9 9))), .c (.d (.sl 9 3 (bdsR 9 l))), .c (.d .nilp)] [.mp (.int .i8) 16 rulesM]
      (fun o σ => o = .ret (.tup [(drv (.node k name arg num tk tks uk uks label place ks) l none).1.valR 2, .c (.d (.bool (drv (.node k name arg num tk tks uk uks label place ks) l none).2))]) ∧ σ = [.mp (.int .i8) 16 rulesM]) := by
  have c1 := pname_call k hk
  rw [drv]
  simp only [pbad, Bool.false_eq_true, if_false]
  have step := fun i t zs => @drvs_stepw k name arg (.node tk tks) (.node uk uks) l none ks i t zs
  generalize hR : ruleN k = R at *
  refine ACall.body tab_ok (ρ := 2) (N := 149) Tryz.func19 rfl rfl rfl rfl rfl ?_
  repeat' first | refine AW.seq ?_ | refine AW.block ?_ | (refine (id : AW _ _ _ (.region 2 _ true) _ _ → _) ?_; refine AW.draw (id := 2) tab_ok mixed [0, 1, 2, 3, 4, 5, 6, 7, 8, 9, 10, 11, 12, 13, 14, 15, 16, 17, 18, 19, 20, 21, 22, 23] (by kernel_rfl) ?_; conv => whnf) | (refine (id : AW _ _ _ (.region 14 _ true) _ _ → _) ?_; refine AW.drawT (id := 14) tab_ok mixed [0, 1, 2, 3, 4, 5, 6, 7, 8, 9, 10, 12, 11, 13, 14, 15, 16, 17, 18, 19] oTRw5_19_14 (by kernel_rfl) ?_; conv => whnf) | (refine (id : AW _ _ _ (.region 25 _ true) _ _ → _) ?_; refine AW.draw (id := 25) tab_ok mixed [0, 1, 2, 3, 4, 5, 6, 7, 8, 9, 10, 11, 12, 13, 14, 15, 16] (by kernel_rfl) ?_; conv => whnf) | (refine Fork.mk ?_ ?_ <;> conv => whnf) | ((first | refine AW.region tab_ok ?_ | refine AW.cond ?_ | refine AW.skip ?_ | refine AW.ret ?_ | refine AW.exit ?_); conv => whnf) | (refine (c1).mono ?_; rintro _ _ ⟨rfl, rfl⟩; conv => whnf) | ((first | refine And.intro (@rfl Val _) ?_ | refine And.intro (by decide) ?_ | refine cs (fun _ => ?_) (fun _ => ?_)) <;> conv => whnf)
  refine AW.ghostE 25 2 11 (by decide) rfl ?_
  refine AW.ghost 28 4 2 3 (by decide) rfl rfl ?_
  refine AW.loop (ι := DrvI k name arg (.node tk tks) (.node uk uks) l none ks) (fun x => ⟨149, [(54, .c (.d (.int .i64 x.i))), (53, .c (.d (.int .i64 (Tm.rowsR 9 9 ks).length))), (0, .c (.mp 0)), (1, .c (.d (.rp 9 ((Tm.node k name arg num tk tks uk uks label place ks).cellsR 9 9)))), (2, .c (.d (.sl 9 3 (bdsR 9 l)))), (3, .c (.d .nilp)), (8, .c (.ptr 1 0)), (10, .c (.ptr 2 0)), (11, .c (.own 3 (Ty.rowsR 2 (x.zs.map Pf.ty)).length))],
      [.mp (.int .i8) 16 rulesM, .var [.d (.str ⟨#[]⟩), .d (.int .i8 0), .d .nils, .d .nils], .var [.d (.str R), .d (.int .i8 0), .d .nils, .own 4 (Pf.rowsR 2 x.zs).length], .row 25 2 (Ty.rowsR 2 (x.zs.map Pf.ty)), .row 28 4 (Pf.rowsR 2 x.zs)], []⟩)
    (fun x => ks.length - x.i) ⟨0, Nat.zero_le _, [], rfl, by simp⟩ 5 (fun _ => rfl) (Nat.le_of_ble_eq_true rfl) ⟨⟨rfl, rfl, rfl, rfl, rfl, rfl, rfl, rfl, rfl, trivial⟩, rfl, rfl, ⟨[], rfl⟩, rfl⟩ (fun x => ?_)
  obtain ⟨i, hi, zs, hz, h⟩ := x
  by_cases hlt0 : i < ks.length
  · skip
    cases zs with
    | nil =>
      simp at hz
      subst hz
      repeat' first | refine AW.seq ?_ | refine AW.block ?_ | (refine (id : AW _ _ _ (.region 2 _ true) _ _ → _) ?_; refine AW.draw (id := 2) tab_ok mixed [0, 1, 2, 3, 4, 5, 6, 7, 8, 9, 10, 11, 12, 13, 14, 15, 16, 17, 18, 19, 20, 21, 22, 23] (by kernel_rfl) ?_; conv => whnf) | (refine (id : AW _ _ _ (.region 14 _ true) _ _ → _) ?_; refine AW.drawT (id := 14) tab_ok mixed [0, 1, 2, 3, 4, 5, 6, 7, 8, 9, 10, 12, 11, 13, 14, 15, 16, 17, 18, 19] oTRw5_19_14 (by kernel_rfl) ?_; conv => whnf) | (refine (id : AW _ _ _ (.region 25 _ true) _ _ → _) ?_; refine AW.draw (id := 25) tab_ok mixed [0, 1, 2, 3, 4, 5, 6, 7, 8, 9, 10, 11, 12, 13, 14, 15, 16] (by kernel_rfl) ?_; conv => whnf) | (refine Fork.mk ?_ ?_ <;> conv => whnf) | ((first | refine AW.region tab_ok ?_ | refine AW.cond ?_ | refine AW.skip ?_ | refine AW.ret ?_ | refine AW.exit ?_); conv => whnf) | (refine (c1).mono ?_; rintro _ _ ⟨rfl, rfl⟩; conv => whnf) | ((first | refine And.intro (@rfl Val _) ?_ | refine And.intro (by decide) ?_ | refine cs (fun _ => ?_) (fun _ => ?_)) <;> conv => whnf)
      · rename_i g1
        have hlt : 0 < ks.length := by have := of_decide_eq_true g1; rw [tmrowsR_len] at this; simp only at this; omega
        obtain ⟨t, ht⟩ : ∃ t, ks[0]? = some t := ⟨_, List.getElem?_eq_getElem hlt⟩
        have f1 : (0 : Int) ≤ (0 : Nat) ∧ ((0 : Nat) : Int) < ((Tm.rowsR 9 9 ks).length : Nat) := by rw [tmrowsR_len]; omega
        have e1 : ∀ row, (Tm.rowsR 9 9 ks)[((0 : Nat) : Int).toNat]? = some row → t.cellsR 9 9 = row := fun row h => by
          obtain ⟨x, hx, rfl⟩ := tmrowsR_get 9 9 ks 0 row h
          rw [ht] at hx; cases hx; rfl
        obtain ⟨s1, s2⟩ := step 0 t [] ht rfl h
        simp only [List.map_nil, List.headD_nil, pkid, Option.map_none] at s1 s2
        have ci := inner_any k hk name arg num tk tks uk uks label place ks l (by omega) 0 unk 2
        have cd := ih t (List.mem_of_getElem? ht) (innerM k name arg (.node tk tks) (.node uk uks) l 0 unk) (innerM_lenw ..) (hG 0 [] _ (congrArg Prod.fst h))
        generalize innerM k name arg (.node tk tks) (.node uk uks) l 0 unk = li at *
        generalize drv t li none = q at *
        obtain ⟨⟨qr, ⟨qk, qks⟩, qqs⟩, bq⟩ := q
        generalize t.cellsR 9 9 = tc at *
        refine ⟨f1, fun row hrow => ?_⟩
        obtain rfl := e1 row hrow
        conv => whnf
        cases bq
        · skip
          repeat' first | ((refine And.intro f1 fun row hrow => ?_; obtain rfl := e1 row hrow; conv => whnf)) | ((refine And.intro (rfl : (_ : Nat) = _) ?_; conv => whnf)) | refine AW.seq ?_ | refine AW.block ?_ | (refine (id : AW _ _ _ (.region 2 _ true) _ _ → _) ?_; refine AW.draw (id := 2) tab_ok mixed [0, 1, 2, 3, 4, 5, 6, 7, 8, 9, 10, 11, 12, 13, 14, 15, 16, 17, 18, 19, 20, 21, 22, 23] (by kernel_rfl) ?_; conv => whnf) | (refine (id : AW _ _ _ (.region 14 _ true) _ _ → _) ?_; refine AW.drawT (id := 14) tab_ok mixed [0, 1, 2, 3, 4, 5, 6, 7, 8, 9, 10, 12, 11, 13, 14, 15, 16, 17, 18, 19] oTRw5_19_14 (by kernel_rfl) ?_; conv => whnf) | (refine (id : AW _ _ _ (.region 25 _ true) _ _ → _) ?_; refine AW.draw (id := 25) tab_ok mixed [0, 1, 2, 3, 4, 5, 6, 7, 8, 9, 10, 11, 12, 13, 14, 15, 16] (by kernel_rfl) ?_; conv => whnf) | (refine Fork.mk ?_ ?_ <;> conv => whnf) | ((first | refine AW.region tab_ok ?_ | refine AW.cond ?_ | refine AW.skip ?_ | refine AW.ret ?_ | refine AW.exit ?_); conv => whnf) | ((first | refine (ci).mono ?_ | refine (cd).mono ?_); rintro _ _ ⟨rfl, rfl⟩; conv => whnf) | ((first | refine And.intro (@rfl Val _) ?_ | refine And.intro (by decide) ?_ | refine cs (fun _ => ?_) (fun _ => ?_)) <;> conv => whnf)
          all_goals (rw [s2 rfl]; simp only [drvF, if_true]; rw [hR]; exact ⟨rfl, rfl⟩)
        · have hb1 : bnd (0 + 1) 32 := by simp [bnd]
          have hb2 : bnd (0 + 1) 72 := by simp [bnd]
          repeat' first | ((refine And.intro f1 fun row hrow => ?_; obtain rfl := e1 row hrow; conv => whnf)) | ((refine And.intro ⟨rfl, hb1⟩ ?_; conv => whnf)) | ((refine And.intro ⟨rfl, hb2⟩ ?_; conv => whnf)) | ((refine And.intro (rfl : (_ : Nat) = _) ?_; conv => whnf)) | refine AW.seq ?_ | refine AW.block ?_ | (refine (id : AW _ _ _ (.region 2 _ true) _ _ → _) ?_; refine AW.draw (id := 2) tab_ok mixed [0, 1, 2, 3, 4, 5, 6, 7, 8, 9, 10, 11, 12, 13, 14, 15, 16, 17, 18, 19, 20, 21, 22, 23] (by kernel_rfl) ?_; conv => whnf) | (refine (id : AW _ _ _ (.region 14 _ true) _ _ → _) ?_; refine AW.drawT (id := 14) tab_ok mixed [0, 1, 2, 3, 4, 5, 6, 7, 8, 9, 10, 12, 11, 13, 14, 15, 16, 17, 18, 19] oTRw5_19_14 (by kernel_rfl) ?_; conv => whnf) | (refine (id : AW _ _ _ (.region 25 _ true) _ _ → _) ?_; refine AW.draw (id := 25) tab_ok mixed [0, 1, 2, 3, 4, 5, 6, 7, 8, 9, 10, 11, 12, 13, 14, 15, 16] (by kernel_rfl) ?_; conv => whnf) | (refine Fork.mk ?_ ?_ <;> conv => whnf) | ((first | refine AW.region tab_ok ?_ | refine AW.cond ?_ | refine AW.skip ?_ | refine AW.ret ?_ | refine AW.exit ?_); conv => whnf) | ((first | refine (ci).mono ?_ | refine (cd).mono ?_); rintro _ _ ⟨rfl, rfl⟩; conv => whnf) | ((first | refine And.intro (@rfl Val _) ?_ | refine And.intro (by decide) ?_ | refine cs (fun _ => ?_) (fun _ => ?_)) <;> conv => whnf)
          all_goals exact ⟨⟨1, hlt, [.node qr (.node qk qks) qqs], rfl, s1 rfl⟩, ⟨⟨rfl, rfl, rfl, rfl, rfl, rfl, rfl, rfl, rfl, trivial⟩, rfl, rfl, ⟨_, rfl⟩, rfl⟩, show ks.length - 1 < ks.length - 0 by omega⟩
      all_goals (rename_i g _; exfalso; have g := of_decide_eq_false g; rw [tmrowsR_len] at g; simp only at g; omega)
    | cons z zs =>
      have hzl : zs.length + 1 = i := by simpa using hz
      have h0 : ¬ i = 0 := by omega
      have hL : (z :: zs).length ≤ ks.length := by rw [hz]; exact hi
      generalize hLz : z :: zs = L at *
      have hLh : (L.map Pf.ty).headD unk = z.ty := by rw [← hLz]; rfl
      have hLr : Ty.rowsR 2 (L.map Pf.ty) = z.ty.cellsR 2 :: Ty.rowsR 2 (zs.map Pf.ty) := by rw [← hLz]; rfl
      have hb1 : bnd ((Ty.rowsR 2 (L.map Pf.ty)).length + 1) 32 := by simp only [bnd, tyrowsR_len, List.length_map]; omega
      have hb2 : bnd ((Pf.rowsR 2 L).length + 1) 72 := by simp only [bnd, prowsR_len]; omega
      obtain ⟨zr, ⟨zk, zks⟩, zqs⟩ := z
      simp only [Pf.ty] at hLh hLr
      repeat' first | refine AW.seq ?_ | refine AW.block ?_ | (refine (id : AW _ _ _ (.region 2 _ true) _ _ → _) ?_; refine AW.draw (id := 2) tab_ok mixed [0, 1, 2, 3, 4, 5, 6, 7, 8, 9, 10, 11, 12, 13, 14, 15, 16, 17, 18, 19, 20, 21, 22, 23] (by kernel_rfl) ?_; conv => whnf) | (refine (id : AW _ _ _ (.region 14 _ true) _ _ → _) ?_; refine AW.drawT (id := 14) tab_ok mixed [0, 1, 2, 3, 4, 5, 6, 7, 8, 9, 10, 12, 11, 13, 14, 15, 16, 17, 18, 19] oTRw5_19_14 (by kernel_rfl) ?_; conv => whnf) | (refine (id : AW _ _ _ (.region 25 _ true) _ _ → _) ?_; refine AW.draw (id := 25) tab_ok mixed [0, 1, 2, 3, 4, 5, 6, 7, 8, 9, 10, 11, 12, 13, 14, 15, 16] (by kernel_rfl) ?_; conv => whnf) | (refine Fork.mk ?_ ?_ <;> conv => whnf) | ((first | refine AW.region tab_ok ?_ | refine AW.cond ?_ | refine AW.skip ?_ | refine AW.ret ?_ | refine AW.exit ?_); conv => whnf) | (refine (c1).mono ?_; rintro _ _ ⟨rfl, rfl⟩; conv => whnf) | ((first | refine And.intro (@rfl Val _) ?_ | refine And.intro (by decide) ?_ | refine cs (fun _ => ?_) (fun _ => ?_)) <;> conv => whnf)
      · rename_i g1 g2
        have hlt : i < ks.length := by have := of_decide_eq_true g1; rw [tmrowsR_len] at this; simp only at this; omega
        obtain ⟨t, ht⟩ : ∃ t, ks[i]? = some t := ⟨_, List.getElem?_eq_getElem hlt⟩
        have f1 : (0 : Int) ≤ (i : Int) ∧ (i : Int) < ((Tm.rowsR 9 9 ks).length : Nat) := by rw [tmrowsR_len]; omega
        have e1 : ∀ row, (Tm.rowsR 9 9 ks)[((i : Nat) : Int).toNat]? = some row → t.cellsR 9 9 = row := fun row h => by
          obtain ⟨x, hx, rfl⟩ := tmrowsR_get 9 9 ks i row (by simpa using h)
          rw [ht] at hx; cases hx; rfl
        have f2 : (Ty.rowsR 2 (L.map Pf.ty)).length = (Ty.rowsR 2 (L.map Pf.ty)).length ∧ (0 : Int) ≤ 0 ∧ (0 : Int) < ((Ty.rowsR 2 (L.map Pf.ty)).length : Nat) := ⟨rfl, by decide, by rw [hLr]; simp <;> omega⟩
        have f3 : (Ty.rowsR 2 (L.map Pf.ty)).length = (Ty.rowsR 2 (L.map Pf.ty)).length ∧ Int.toNat 0 < (Ty.rowsR 2 (L.map Pf.ty)).length := ⟨rfl, by rw [hLr]; simp⟩
        have e3 : ∀ row, (Ty.rowsR 2 (L.map Pf.ty))[Int.toNat 0]? = some row → (Ty.node zk zks).cellsR 2 = row := fun row h => by
          rw [hLr] at h; exact Option.some.inj h
        obtain ⟨s1, s2⟩ := step i t L ht hz h
        rw [hLh] at s1 s2
        simp only [pkid, Option.map_none] at s1 s2
        have ci := inner_any k hk name arg num tk tks uk uks label place ks l (by omega) i (.node zk zks) 2
        have cd := ih t (List.mem_of_getElem? ht) (innerM k name arg (.node tk tks) (.node uk uks) l i (.node zk zks)) (innerM_lenw ..) (by have := hG i L _ (congrArg Prod.fst h); rwa [hLh] at this)
        generalize innerM k name arg (.node tk tks) (.node uk uks) l i (.node zk zks) = li at *
        generalize drv t li none = q at *
        obtain ⟨⟨qr, ⟨qk, qks⟩, qqs⟩, bq⟩ := q
        generalize t.cellsR 9 9 = tc at *
        have hT : Ty.rowsR 2 ((L ++ [Pf.node qr (.node qk qks) qqs]).map Pf.ty) = Ty.rowsR 2 (L.map Pf.ty) ++ [[.int .i8 qk, .sl 2 2 (Ty.rowsR 2 qks)]] := by rw [List.map_append]; exact tyrowsR_app 2 _ _
        have hP : Pf.rowsR 2 (L ++ [.node qr (.node qk qks) qqs]) = Pf.rowsR 2 L ++ [[.str qr, .int .i8 qk, .sl 2 2 (Ty.rowsR 2 qks), .sl 2 4 (Pf.rowsR 2 qqs)]] := by exact prowsR_app 2 _ _
        have hTl : (Ty.rowsR 2 (L.map Pf.ty)).length + [[DV.int .i8 qk, .sl 2 2 (Ty.rowsR 2 qks)]].length = (Ty.rowsR 2 ((L ++ [Pf.node qr (.node qk qks) qqs]).map Pf.ty)).length := by rw [hT, List.length_append]
        have hPl : (Pf.rowsR 2 L).length + [[DV.str qr, .int .i8 qk, .sl 2 2 (Ty.rowsR 2 qks), .sl 2 4 (Pf.rowsR 2 qqs)]].length = (Pf.rowsR 2 (L ++ [.node qr (.node qk qks) qqs])).length := by rw [hP, List.length_append]
        refine ⟨f2, ?_⟩
        conv => whnf
        cases bq
        · skip
          repeat' first | ((refine And.intro f1 fun row hrow => ?_; obtain rfl := e1 row hrow; conv => whnf)) | ((refine And.intro f3 fun row hrow => ?_; obtain rfl := e3 row hrow; conv => whnf)) | ((refine And.intro (rfl : (_ : Nat) = _) ?_; conv => whnf)) | refine AW.seq ?_ | refine AW.block ?_ | (refine (id : AW _ _ _ (.region 2 _ true) _ _ → _) ?_; refine AW.draw (id := 2) tab_ok mixed [0, 1, 2, 3, 4, 5, 6, 7, 8, 9, 10, 11, 12, 13, 14, 15, 16, 17, 18, 19, 20, 21, 22, 23] (by kernel_rfl) ?_; conv => whnf) | (refine (id : AW _ _ _ (.region 14 _ true) _ _ → _) ?_; refine AW.drawT (id := 14) tab_ok mixed [0, 1, 2, 3, 4, 5, 6, 7, 8, 9, 10, 12, 11, 13, 14, 15, 16, 17, 18, 19] oTRw5_19_14 (by kernel_rfl) ?_; conv => whnf) | (refine (id : AW _ _ _ (.region 25 _ true) _ _ → _) ?_; refine AW.draw (id := 25) tab_ok mixed [0, 1, 2, 3, 4, 5, 6, 7, 8, 9, 10, 11, 12, 13, 14, 15, 16] (by kernel_rfl) ?_; conv => whnf) | (refine Fork.mk ?_ ?_ <;> conv => whnf) | ((first | refine AW.region tab_ok ?_ | refine AW.cond ?_ | refine AW.skip ?_ | refine AW.ret ?_ | refine AW.exit ?_); conv => whnf) | ((first | refine (ci).mono ?_ | refine (cd).mono ?_); rintro _ _ ⟨rfl, rfl⟩; conv => whnf) | ((first | refine And.intro (@rfl Val _) ?_ | refine And.intro (by decide) ?_ | refine cs (fun _ => ?_) (fun _ => ?_)) <;> conv => whnf)
          all_goals (rw [s2 rfl]; simp only [drvF, if_true]; rw [hR]; exact ⟨rfl, rfl⟩)
        · skip
          repeat' first | ((refine And.intro f1 fun row hrow => ?_; obtain rfl := e1 row hrow; conv => whnf)) | ((refine And.intro f3 fun row hrow => ?_; obtain rfl := e3 row hrow; conv => whnf)) | ((refine And.intro ⟨rfl, hb1⟩ ?_; conv => whnf)) | ((refine And.intro ⟨rfl, hb2⟩ ?_; conv => whnf)) | ((refine And.intro (rfl : (_ : Nat) = _) ?_; conv => whnf)) | refine AW.seq ?_ | refine AW.block ?_ | (refine (id : AW _ _ _ (.region 2 _ true) _ _ → _) ?_; refine AW.draw (id := 2) tab_ok mixed [0, 1, 2, 3, 4, 5, 6, 7, 8, 9, 10, 11, 12, 13, 14, 15, 16, 17, 18, 19, 20, 21, 22, 23] (by kernel_rfl) ?_; conv => whnf) | (refine (id : AW _ _ _ (.region 14 _ true) _ _ → _) ?_; refine AW.drawT (id := 14) tab_ok mixed [0, 1, 2, 3, 4, 5, 6, 7, 8, 9, 10, 12, 11, 13, 14, 15, 16, 17, 18, 19] oTRw5_19_14 (by kernel_rfl) ?_; conv => whnf) | (refine (id : AW _ _ _ (.region 25 _ true) _ _ → _) ?_; refine AW.draw (id := 25) tab_ok mixed [0, 1, 2, 3, 4, 5, 6, 7, 8, 9, 10, 11, 12, 13, 14, 15, 16] (by kernel_rfl) ?_; conv => whnf) | (refine Fork.mk ?_ ?_ <;> conv => whnf) | ((first | refine AW.region tab_ok ?_ | refine AW.cond ?_ | refine AW.skip ?_ | refine AW.ret ?_ | refine AW.exit ?_); conv => whnf) | ((first | refine (ci).mono ?_ | refine (cd).mono ?_); rintro _ _ ⟨rfl, rfl⟩; conv => whnf) | ((first | refine And.intro (@rfl Val _) ?_ | refine And.intro (by decide) ?_ | refine cs (fun _ => ?_) (fun _ => ?_)) <;> conv => whnf)
          all_goals (rw [hTl, hPl, ← hT, ← hP, wrap64 (x := ((i : Nat) : Int) + 1) (by omega) (by omega)]; exact ⟨⟨i + 1, hlt, L ++ [.node qr (.node qk qks) qqs], by simp [hz], s1 rfl⟩, ⟨⟨rfl, rfl, rfl, rfl, rfl, rfl, rfl, rfl, rfl, trivial⟩, rfl, rfl, ⟨_, rfl⟩, rfl⟩, show ks.length - (i + 1) < ks.length - i by omega⟩)
      · rename_i g1 g2
        have g2 := of_decide_eq_false g2
        simp only at g2
        omega
      all_goals (rename_i g _; exfalso; have g := of_decide_eq_false g; rw [tmrowsR_len] at g; simp only at g; omega)
  · obtain rfl : i = ks.length := by omega
    simp only [List.drop_length, drvs, List.append_nil] at h
    have fin := derive2_rest k hk name arg num tk tks uk uks label place ks l zs hl (by rw [hz]; exact hn) (hok zs h)
    rw [hR] at fin
    rw [h]
    repeat' first | ((refine AW.fits ?_ ?_ fin; rotate_left; rfl; refine ⟨?_, ?_, ?_, ?_, ?_⟩; rotate_left; rfl; rfl; exact ⟨[], rfl⟩; rfl; refine ⟨?_, ?_, ?_, ?_, ?_, ?_, ?_, trivial⟩ <;> rfl)) | refine AW.seq ?_ | refine AW.block ?_ | (refine (id : AW _ _ _ (.region 2 _ true) _ _ → _) ?_; refine AW.draw (id := 2) tab_ok mixed [0, 1, 2, 3, 4, 5, 6, 7, 8, 9, 10, 11, 12, 13, 14, 15, 16, 17, 18, 19, 20, 21, 22, 23] (by kernel_rfl) ?_; conv => whnf) | (refine (id : AW _ _ _ (.region 14 _ true) _ _ → _) ?_; refine AW.drawT (id := 14) tab_ok mixed [0, 1, 2, 3, 4, 5, 6, 7, 8, 9, 10, 12, 11, 13, 14, 15, 16, 17, 18, 19] oTRw5_19_14 (by kernel_rfl) ?_; conv => whnf) | (refine (id : AW _ _ _ (.region 25 _ true) _ _ → _) ?_; refine AW.draw (id := 25) tab_ok mixed [0, 1, 2, 3, 4, 5, 6, 7, 8, 9, 10, 11, 12, 13, 14, 15, 16] (by kernel_rfl) ?_; conv => whnf) | (refine Fork.mk ?_ ?_ <;> conv => whnf) | ((first | refine AW.region tab_ok ?_ | refine AW.cond ?_ | refine AW.skip ?_ | refine AW.ret ?_ | refine AW.exit ?_); conv => whnf) | (refine (c1).mono ?_; rintro _ _ ⟨rfl, rfl⟩; conv => whnf) | ((first | refine And.intro (@rfl Val _) ?_ | refine And.intro (by decide) ?_ | refine cs (fun _ => ?_) (fun _ => ?_)) <;> conv => whnf)
    all_goals first | (rename_i g _; exfalso; have g := of_decide_eq_true g; rw [tmrowsR_len] at g; simp only at g; omega) | (rename_i g; exfalso; have g := of_decide_eq_true g; rw [tmrowsR_len] at g; simp only at g; omega)
end Go.Proofs.YtlboogackecjlaaGreat.E

/- proof: types stay bounded. No conditions. -/
set_option linter.unusedVariables false
set_option linter.unusedSimpArgs false
namespace Go.Proofs.YtlboogackecjlaaGreat.E
open Go

theorem nodesL_mem' : ∀ (l : List Ty) (t : Ty), t ∈ l → nodes t ≤ nodesL l
  | x :: l, t, h => by
    simp only [nodesL]
    rcases List.mem_cons.1 h with rfl | h
    · omega
    · have := nodesL_mem' l t h; omega
theorem tyok_nodes (a : Ty) : nodes a ≤ 100000 → TyOk a := by
  induction a using Ty.ind with
  | _ k ks ih =>
  intro h
  simp only [nodes] at h
  have hl := nodesL_len ks
  exact .node (by omega) fun t ht => ih t ht (by have := nodesL_mem' ks t ht; omega)
theorem tyok_unk : TyOk unk := .node (by simp) (by simp)
theorem tyok_kid {k : Int} {ks : List Ty} (h : TyOk (.node k ks)) {t : Ty} (ht : t ∈ ks) : TyOk t := by
  cases h with
  | node h1 h2 => exact h2 t ht
theorem tyok_getD {k : Int} {ks : List Ty} (h : TyOk (.node k ks)) (i : Nat) : TyOk (ks.getD i unk) := by
  rw [List.getD_eq_getElem?_getD]
  cases hx : ks[i]? with
  | none => exact tyok_unk
  | some x => exact tyok_kid h (List.mem_of_getElem? hx)
theorem tyok_asL (q : Int) {a : Ty} (h : TyOk a) : TyOk (asL q a) := by
  obtain ⟨k, ks⟩ := a
  simp only [asL]
  split
  · exact tyok_getD h 0
  · exact tyok_unk
theorem tyok_asR (q : Int) {a : Ty} (h : TyOk a) : TyOk (asR q a) := by
  obtain ⟨k, ks⟩ := a
  simp only [asR]
  split
  · exact tyok_getD h 1
  · exact tyok_unk
theorem tyok_two (q : Int) {a b : Ty} (ha : TyOk a) (hb : TyOk b) : TyOk (.node q [a, b]) :=
  .node (by simp) fun t ht => by
    simp at ht
    rcases ht with rfl | rfl
    · exact ha
    · exact hb
theorem tyok_one (q : Int) : TyOk (.node q []) := .node (by simp) (by simp)
theorem meet_nodes (a : Ty) : ∀ b, nodes (meetF a b) ≤ nodes a + nodes b := by
  induction a using Ty.ind with
  | _ k ks ih =>
  rintro ⟨k', ks'⟩
  have hs : ∀ (l l' : List Ty), (∀ t ∈ l, ∀ b, nodes (meetF t b) ≤ nodes t + nodes b) → nodesL (meetL l l') ≤ nodesL l + nodesL l' := fun l => by
    induction l with
    | nil => intro l' _; simp [meetL, nodesL]
    | cons x l il =>
      intro l' h
      cases l' with
      | nil => simp [meetL, nodesL]
      | cons y l' =>
        have h1 := h x (by simp) y
        have h2 := il l' fun t ht => h t (by simp [ht])
        simp only [meetL, nodesL]; omega
  have := hs ks ks' ih
  simp only [meetF]
  split
  · simp only [nodes]; omega
  · split
    · simp only [nodes]; omega
    · simp only [nodes]; omega
theorem tyok_meet (a b : Ty) : TyOk (MeetS a b) := by
  unfold MeetS
  split
  · rename_i h
    have : tcheck a = 0 ∧ tcheck b = 0 := by
      simp [agreeS] at h
      exact ⟨h.1.1, h.1.2⟩
    have hn : ∀ {c : Ty}, tcheck c = 0 → nodes c ≤ 8192 := fun {c} h => by
      unfold tcheck at h
      split at h
      · cases h
      · omega
    have h1 := hn this.1
    have h2 := hn this.2
    have h3 := meet_nodes a b
    exact tyok_nodes _ (by omega)
  · exact tyok_one 0
theorem tyok_K {K : List Ty} (h : ∀ a ∈ K, TyOk a) (i : Nat) : TyOk (K.getD i unk) := by
  rw [List.getD_eq_getElem?_getD]
  cases hx : K[i]? with
  | none => exact tyok_unk
  | some x => exact h x (List.mem_of_getElem? hx)
theorem tyok_ite {c : Prop} [Decidable c] {x y : Ty × Bool} (hx : TyOk x.1) (hy : TyOk y.1) : TyOk (if c then x else y).1 := by split <;> assumption
theorem tyok_ite1 {c : Prop} [Decidable c] {x y : Ty} (hx : TyOk x) (hy : TyOk y) : TyOk (if c then x else y) := by split <;> assumption
theorem ruleM_ok (k : Int) (name : ByteArray) {T U : Ty} {K : List Ty} (hT : TyOk T) (hU : TyOk U) (hK : ∀ a ∈ K, TyOk a) : TyOk (ruleM k name T U K).1 := by
  have ha := tyok_K hK 0
  have hb := tyok_K hK 1
  have hc := tyok_K hK 2
  unfold ruleM
  dsimp only
  repeat' first | exact tyok_meet _ _ | refine tyok_ite ?_ ?_ | refine tyok_ite1 ?_ ?_
  all_goals first | exact tyok_one _ | exact tyok_two _ hT ha | exact tyok_two _ hT hU | exact tyok_unk | exact tyok_asR _ ha | exact hb | exact tyok_meet _ _ | exact tyok_two _ ha hb | exact tyok_asL _ ha | exact tyok_two _ (tyok_asL _ hT) (tyok_asR _ hT) | exact hT
theorem findB_ok {l : List Bd} (hl : ∀ b ∈ l, TyOk b.a) (s : ByteArray) : TyOk ((findB l s).getD unk) := by
  unfold findB
  cases h : l.reverse.find? fun b => decide (b.name = s) with
  | none => exact tyok_unk
  | some b => exact hl b (List.mem_reverse.1 (List.mem_of_find?_eq_some h))
theorem innerM_ok (k : Int) (name arg : ByteArray) {T U : Ty} {l : List Bd} (i : Nat) {a : Ty} (hT : TyOk T) (hU : TyOk U) (hl : ∀ b ∈ l, TyOk b.a) (ha : TyOk a) : ∀ b ∈ innerM k name arg T U l i a, TyOk b.a := by
  intro b hb
  unfold innerM at hb
  have one : ∀ x : Bd, TyOk x.a → b ∈ l ++ [x] → TyOk b.a := fun x hx h => by
    rcases List.mem_append.1 h with h | h
    · exact hl b h
    · simp at h; subst h; exact hx
  split at hb
  · exact one _ hT hb
  · split at hb
    · rcases List.mem_append.1 hb with h | h
      · exact hl b h
      · simp at h
        rcases h with rfl | rfl
        · exact tyok_two _ hT hU
        · exact hT
    · split at hb
      · split at hb
        · exact one _ (tyok_asL _ ha) hb
        · exact one _ (tyok_asR _ ha) hb
      · exact hl b hb
end Go.Proofs.YtlboogackecjlaaGreat.E

/- proof: drv's types are bounded; what is found. No conditions. -/
set_option linter.unusedVariables false
set_option linter.unusedSimpArgs false
namespace Go.Proofs.YtlboogackecjlaaGreat.E
open Go

theorem drv_ok (t : Tm) : Fine2 t → ∀ (l : List Bd) (p : Option Pf), (∀ b ∈ l, TyOk b.a) → TyOk (drv t l p).1.ty := by
  induction t using Tm.ind with
  | _ k name arg num tk tks uk uks label place ks ih =>
  rintro (⟨hT, hU, _, hks⟩) l p hl
  have hs : ∀ (ks : List Tm), (∀ t ∈ ks, Fine2 t → ∀ (l : List Bd) (p : Option Pf), (∀ b ∈ l, TyOk b.a) → TyOk (drv t l p).1.ty) → (∀ t ∈ ks, Fine2 t) → ∀ (i : Nat) (a : Ty), TyOk a →
      ∀ q ∈ (drvs k name arg (.node tk tks) (.node uk uks) l p ks i a).1, TyOk q.ty := fun ks => by
    induction ks with
    | nil => intro _ _ i a _ q hq; simp [drvs] at hq
    | cons t r ir =>
      intro h1 h2 i a ha q hq
      have hq1 := h1 t (by simp) (h2 t (by simp)) (innerM k name arg (.node tk tks) (.node uk uks) l i a) (pkid p i) (innerM_ok k name arg i hT hU hl ha)
      simp only [drvs] at hq
      split at hq
      · simp only [List.mem_cons] at hq
        rcases hq with rfl | hq
        · exact hq1
        · refine ir (fun t ht => h1 t (by simp [ht])) (fun t ht => h2 t (by simp [ht])) _ _ ?_ q hq
          split
          · exact hq1
          · exact ha
      · simp at hq
  rw [drv]
  split
  · exact tyok_unk
  · unfold drvF
    split
    · exact tyok_unk
    · have hK := hs ks ih hks 0 unk tyok_unk
      have : TyOk (if k = 0 then ((findB l name).getD unk, (findB l name).isSome) else ruleM k name (.node tk tks) (.node uk uks) ((drvs k name arg (.node tk tks) (.node uk uks) l p ks 0 unk).1.map Pf.ty)).1 := by
        refine tyok_ite (findB_ok hl name) (ruleM_ok k name hT hU fun a ha => ?_)
        obtain ⟨q, hq, rfl⟩ := List.mem_map.1 ha
        exact hK q hq
      exact this
theorem drvs_ok (k : Int) (name arg : ByteArray) {T U : Ty} (l : List Bd) (p : Option Pf) (hT : TyOk T) (hU : TyOk U) (hl : ∀ b ∈ l, TyOk b.a) : ∀ (ks : List Tm), (∀ t ∈ ks, Fine2 t) → ∀ (i : Nat) (a : Ty), TyOk a →
    ∀ q ∈ (drvs k name arg T U l p ks i a).1, TyOk q.ty
  | [], _, i, a, _, q, hq => by simp [drvs] at hq
  | t :: r, h2, i, a, ha, q, hq => by
    have hq1 := drv_ok t (h2 t (by simp)) (innerM k name arg T U l i a) (pkid p i) (innerM_ok k name arg i hT hU hl ha)
    simp only [drvs] at hq
    split at hq
    · simp only [List.mem_cons] at hq
      rcases hq with rfl | hq
      · exact hq1
      · refine drvs_ok k name arg l p hT hU hl r (fun t ht => h2 t (by simp [ht])) _ _ ?_ q hq
        split
        · exact hq1
        · exact ha
    · simp at hq
theorem soundP_ok {t : Tm} (h : soundP t = 0) : tmcheck t = 0 ∧ tmhas 17 t = false := by
  unfold soundP at h
  split at h
  · rename_i h1; exact absurd h h1
  · rename_i h1
    split at h
    · cases h
    · rename_i h2; exact ⟨by simpa using h1, by simpa using h2⟩
def findE (t : Tm) : Int := if soundP t ≠ 0 then soundP t else if (drv t [] none).2 = true then 0 else 100
def findP (t : Tm) : Pf := if findE t = 0 then (drv t [] none).1 else pf0
end Go.Proofs.YtlboogackecjlaaGreat.E

/- From a row's reading of an argument to a tree. No conditions. -/
set_option linter.unusedVariables false
set_option linter.unusedSimpArgs false
namespace Go.Proofs.YtlboogackecjlaaGreat.E
open Go Go.RowKit

/-- All that was there is one region. -/
def rgAll (w : World) : Nat → Option Nat := fun b => if b < w.heap.size then some 0 else none
def czAll (w : World) : Cz := ⟨[], rgAll w⟩
theorem inv_all (w : World) : Inv w (czAll w) [] :=
  ⟨rfl, fun i o e h => by simp at h, fun i o e b h => by simp at h, fun i j o p e f b h => by simp at h, fun b r h => by
    simp only [czAll, rgAll] at h
    split at h
    · assumption
    · cases h⟩

theorem cell_parts {w : World} {a : Addr} {v : Value} (h : w.cell? a = some v) : a.spot = none ∧ ∃ cs e fz, w.heap[a.block]? = some (.cells cs e fz) ∧ cs[a.off]? = some v := by
  have hs := World.cell?_spot h
  refine ⟨hs, ?_⟩
  unfold World.cell? at h
  split at h
  · rename_i cs e fz hh
    exact ⟨cs, e, fz, hh, by simpa [hs] using h⟩
  · cases h

noncomputable def fld (t i : Nat) : Field := match Tryz.prog.underlying t with
  | some (.struct fs) => fs.getD i default
  | _ => default
theorem u30 : Tryz.prog.underlying 25 = some (.struct #[fld 25 0, fld 25 1]) := by kernel_rfl
theorem f30_0 : (fld 25 0).type = 22 ∧ (fld 25 0).offset = 0 := ⟨by kernel_rfl, by kernel_rfl⟩
theorem f30_1 : (fld 25 1).type = 23 ∧ (fld 25 1).offset = 1 := ⟨by kernel_rfl, by kernel_rfl⟩
theorem u28 : Tryz.prog.underlying 23 = some (.slice 25) := by kernel_rfl
theorem u27 : Tryz.prog.underlying 22 = some (.int .i8) := by kernel_rfl
theorem c30 : Tryz.prog.cellsOf 25 = 2 := by kernel_rfl
theorem c28 : Tryz.prog.cellsOf 23 = 1 := by kernel_rfl
theorem c27 : Tryz.prog.cellsOf 22 = 1 := by kernel_rfl

/-- The cells of a value stand for the data. -/
def Stand (w : World) (cs : List Value) (xs : List DV) : Prop := cs.length = xs.length ∧ ∀ (i : Nat) v x, cs[i]? = some v → xs[i]? = some x → RepD w (rgAll w) v x

section
variable {H : Type} {enc : TypeId × Value → H} {w : World} {base : Nat} {spare : Nat → Bool} {held : Bool}

theorem list_of {α : Type} {Q : Nat → α → Prop} : ∀ n, (∀ i, i < n → ∃ x, Q i x) → ∃ xs : List α, xs.length = n ∧ ∀ (i : Nat) x, xs[i]? = some x → Q i x
  | 0, _ => ⟨[], rfl, fun i x h => by simp at h⟩
  | n + 1, h => by
    obtain ⟨xs, h1, h2⟩ := list_of n (fun i hi => h i (by omega))
    obtain ⟨x, hx⟩ := h n (by omega)
    refine ⟨xs ++ [x], by simp [h1], fun i y hy => ?_⟩
    by_cases hi : i < n
    · rw [List.getElem?_append_left (by omega)] at hy
      exact h2 i y hy
    · rw [List.getElem?_append_right (by omega)] at hy
      cases he : i - xs.length with
      | zero =>
        rw [he] at hy
        simp at hy
        subst hy
        obtain rfl : i = n := by omega
        exact hx
      | succ k => rw [he] at hy; simp at hy

theorem add_none (b o k : Nat) : (⟨b, o, none⟩ : Addr).add k = ⟨b, o + k, none⟩ := by
  unfold Addr.add
  split
  · rename_i h; subst h; rfl
  · rfl

/-- A slice, from its elements. -/
theorem stand_slice {α : Type} (sz : Nat) (hsz : 0 < sz) (f : α → List DV) (hf : ∀ x, (f x).length = sz) {a : Addr} {len cap : Nat} (hlc : len ≤ cap) (h : ∀ i, i < len → ∃ x cs, w.cells? base (a.add (i * sz)) sz = some cs ∧ Stand w cs (f x)) :
    ∃ xs : List α, xs.length = len ∧ RepD w (rgAll w) (.slice (some a) len cap) (.sl 0 sz (xs.map f)) := by
  obtain ⟨xs, hx1, hx2⟩ := list_of len h
  refine ⟨xs, hx1, ?_⟩
  cases xs with
  | nil =>
    simp at hx1
    subst hx1
    exact .sl0 (some a) 0 sz cap
  | cons x0 xr =>
    obtain ⟨cs0, g1, g2⟩ := hx2 0 x0 rfl
    obtain ⟨_, g3, g4⟩ := World.cells?_some g1
    have hc0 := g4 0 hsz
    rw [List.getElem?_eq_getElem (by omega)] at hc0
    obtain ⟨k1, cs, e, fz, k2, k3⟩ := cell_parts hc0
    obtain ⟨b, o, spot⟩ := a
    have hspot : spot = none := by simpa [Addr.add] using k1
    subst hspot
    simp only [Nat.zero_mul, add_none, Nat.add_zero] at k2
    have hlt : b < w.heap.size := by
      rcases Nat.lt_or_ge b w.heap.size with h | h
      · exact h
      · rw [Array.getElem?_eq_none h] at k2; cases k2
    have hcell : ∀ (j i : Nat) x, (x0 :: xr)[j]? = some x → i < sz → ∃ v, cs[o + j * sz + i]? = some v ∧ ∀ y, (f x)[i]? = some y → RepD w (rgAll w) v y := fun j i x hj hi => by
      obtain ⟨cs', q1, q2, q3⟩ := hx2 j x hj
      obtain ⟨_, q4, q5⟩ := World.cells?_some q1
      have q6 := q5 i hi
      rw [List.getElem?_eq_getElem (by omega)] at q6
      obtain ⟨_, cs2, e2, fz2, r2, r3⟩ := cell_parts q6
      simp only [add_none] at r2 r3
      rw [k2] at r2
      cases r2
      exact ⟨_, r3, fun y hy => q3 i _ y (List.getElem?_eq_getElem (by omega)) hy⟩
    refine .sl 0 sz b o len cap _ cs e fz (fun j i => (cs[o + j * sz + i]?).getD undef) ⟨⟨0, by simp [rgAll, hlt], rfl, .inl rfl⟩, fun h => by rcases h with h | h <;> cases h⟩ k2 (by simpa using hx1.symm) hlc (fun row hr => ?_) (fun j i hj hi => ?_) (fun j i row y hj hi => ?_)
    · obtain ⟨x, _, rfl⟩ := List.mem_map.1 hr
      exact hf x
    · obtain ⟨v, hv, _⟩ := hcell j i _ (List.getElem?_eq_getElem (by omega)) hi
      rw [hv]; rfl
    · rw [List.getElem?_map] at hj
      cases hjx : (x0 :: xr)[j]? with
      | none => rw [hjx] at hj; cases hj
      | some x =>
        rw [hjx] at hj
        cases hj
        have hil : i < sz := by
          have := (List.getElem?_eq_some_iff.1 hi).1
          rw [hf] at this; exact this
        obtain ⟨v, hv, hr⟩ := hcell j i x hjx hil
        show RepD w (rgAll w) ((cs[o + j * sz + i]?).getD undef) y
        rw [hv]
        exact hr y hi

theorem rows_map : ∀ ks : List Ty, Ty.rows ks = ks.map Ty.cells
  | [] => rfl
  | t :: l => by simp [Ty.rows, rows_map l]
theorem cells_len (t : Ty) : t.cells.length = 2 := by cases t; rfl

end

/-- What was there is as it was. -/
theorem below_same {w w' : World} (h : Below w.heap.size w w') {p : MemPlace} (hp : p.block < w.heap.size) : w.sameAt w' p := by
  cases p with
  | cell b off =>
    show w'.cell? _ = w.cell? _
    unfold World.cell?
    rw [h.block b hp]
  | map b => exact h.block b hp
end Go.Proofs.YtlboogackecjlaaGreat.E
