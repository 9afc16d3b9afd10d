/- proof: derive. No conditions. -/
import Derived.Test.YtlboogackecjlaaGreatPv9
set_option linter.unusedVariables false
set_option linter.unusedSimpArgs false
namespace Go.Proofs.YtlboogackecjlaaGreat.E
open Go
def oTPv8_19_14 : OT := (.op 0 (.op 1 (.op 2 (.op 3 (.op 4 (.op 5 (.op 6 (.op 7 (.op 8 (.op 9 (.op 10 (.op 12 (.alt (.op 11 (.alt (.op 13 (.op 14 (.alt (.op 15 (.alt (.op 16 (.op 17 (.op 18 (.op 19 .nil)))) (.op 17 (.alt (.op 16 (.op 18 (.op 19 .nil))) (.op 18 (.op 16 (.op 19 .nil))))))) (.alt (.op 16 (.alt (.op 15 (.op 17 (.op 18 (.op 19 .nil)))) (.op 17 (.op 15 (.op 18 (.op 19 .nil)))))) (.op 17 (.alt (.op 15 (.alt (.op 16 (.op 18 (.op 19 .nil))) (.op 18 (.op 16 (.op 19 .nil))))) (.op 16 (.op 15 (.op 18 (.op 19 .nil)))))))))) (.op 17 (.op 13 (.op 14 (.alt (.op 15 (.alt (.op 16 (.op 18 (.op 19 .nil))) (.op 18 (.op 16 (.op 19 .nil))))) (.op 16 (.op 15 (.op 18 (.op 19 .nil)))))))))) (.op 17 (.op 11 (.op 13 (.op 14 (.alt (.op 15 (.alt (.op 16 (.op 18 (.op 19 .nil))) (.op 18 (.op 16 (.op 19 .nil))))) (.op 16 (.op 15 (.op 18 (.op 19 .nil))))))))))))))))))))))

theorem innerM_len (k : Int) (name arg : ByteArray) (T U : Ty) (l : List Bd) (i : Nat) (a : Ty) : (innerM k name arg T U l i a).length ≤ l.length + 2 := by
  unfold innerM
  split
  · simp
  · split
    · simp
    · split
      · split <;> simp
      · omega
theorem tyrows_app (l m : List Ty) : Ty.rows (l ++ m) = Ty.rows l ++ Ty.rows m := by
  rw [rows_map', rows_map', rows_map', List.map_append]
theorem prows_app : ∀ (l m : List Pf), Pf.rows (l ++ m) = Pf.rows l ++ Pf.rows m
  | [], m => rfl
  | p :: l, m => by simp [Pf.rows, prows_app l m]
def pV : Option Pf → DV
  | none => .nilp
  | some p => .rp 0 p.cells
/-- So far: i kids, their derivations, the first one's type. -/
structure DrvI (k : Int) (name arg : ByteArray) (T U : Ty) (l : List Bd) (p : Option Pf) (ks : List Tm) where
  i : Nat
  hi : i ≤ ks.length
  zs : List Pf
  hz : zs.length = i
  h : drvs k name arg T U l p ks 0 unk = (zs ++ (drvs k name arg T U l p (ks.drop i) i ((zs.map Pf.ty).headD unk)).1, (drvs k name arg T U l p (ks.drop i) i ((zs.map Pf.ty).headD unk)).2)
theorem drvs_step {k : Int} {name arg : ByteArray} {T U : Ty} {l : List Bd} {p : Option Pf} {ks : List Tm} {i : Nat} {t : Tm} {zs : List Pf} (ht : ks[i]? = some t) (hz : zs.length = i)
    (h : drvs k name arg T U l p ks 0 unk = (zs ++ (drvs k name arg T U l p (ks.drop i) i ((zs.map Pf.ty).headD unk)).1, (drvs k name arg T U l p (ks.drop i) i ((zs.map Pf.ty).headD unk)).2)) :
    ((drv t (innerM k name arg T U l i ((zs.map Pf.ty).headD unk)) (pkid p i)).2 = true → drvs k name arg T U l p ks 0 unk = ((zs ++ [(drv t (innerM k name arg T U l i ((zs.map Pf.ty).headD unk)) (pkid p i)).1]) ++ (drvs k name arg T U l p (ks.drop (i + 1)) (i + 1) (((zs ++ [(drv t (innerM k name arg T U l i ((zs.map Pf.ty).headD unk)) (pkid p i)).1]).map Pf.ty).headD unk)).1,
        (drvs k name arg T U l p (ks.drop (i + 1)) (i + 1) (((zs ++ [(drv t (innerM k name arg T U l i ((zs.map Pf.ty).headD unk)) (pkid p i)).1]).map Pf.ty).headD unk)).2)) ∧
    ((drv t (innerM k name arg T U l i ((zs.map Pf.ty).headD unk)) (pkid p i)).2 = false → drvs k name arg T U l p ks 0 unk = (zs, false)) := by
  have hd : ks.drop i = t :: ks.drop (i + 1) := by
    have hlt := (List.getElem?_eq_some_iff.1 ht).1
    rw [← List.getElem_cons_drop hlt, (List.getElem?_eq_some_iff.1 ht).2]
  rw [hd, drvs] at h
  generalize hq : drv t (innerM k name arg T U l i ((zs.map Pf.ty).headD unk)) (pkid p i) = q at *
  constructor
  · intro hq2
    rw [h]
    simp only [hq2, if_true]
    have e : (if i = 0 then q.1.ty else (zs.map Pf.ty).headD unk) = ((zs ++ [q.1]).map Pf.ty).headD unk := by
      cases zs with
      | nil => simp at hz; subst hz; simp
      | cons z zs => simp at hz; rw [if_neg (by omega)]; simp
    rw [e]
    simp
  · intro hq2
    rw [h]
    simp [hq2]
set_option maxRecDepth 10000 in
set_option maxHeartbeats 4000000 in
theorem derive_call (k : Int) (hk : 0 ≤ k ∧ k ≤ 16) (name arg : ByteArray) (num tk : Int) (tks : List Ty) (uk : Int) (uks : List Ty) (label place : Int) (ks : List Tm) (l : List Bd) (p : Option Pf) (hks : ks.length ≤ 8192) (hl : l.length ≤ 90000) (hn : (ks.length : Int) = kidsK k)
    (hok : ∀ L : List Pf, drvs k name arg (.node tk tks) (.node uk uks) l p ks 0 unk = (L, true) → TyOk (if k = 0 then ((findB l name).getD unk, (findB l name).isSome) else ruleM k name (.node tk tks) (.node uk uks) (L.map Pf.ty)).1)
    (G : List Bd → Prop) (hG : ∀ (i : Nat) (zs X : List Pf), (drvs k name arg (.node tk tks) (.node uk uks) l p ks 0 unk).1 = zs ++ X → G (innerM k name arg (.node tk tks) (.node uk uks) l i ((zs.map Pf.ty).headD unk)))
    (ih : ∀ t ∈ ks, ∀ (l' : List Bd) (p' : Option Pf), l'.length ≤ l.length + 2 → G l' → ACall Tryz.prog 19 [.c (.mp 0), .c (.d (.rp 0 t.cells)), .c (.d (.sl 0 3 (bds l'))), .c (.d (pV p'))] [.mp (.int .i8) 16 rulesM]
      (fun o σ => o = .ret (.tup [(drv t l' p').1.val, .c (.d (.bool (drv t l' p').2))]) ∧ σ = [.mp (.int .i8) 16 rulesM])) :
    ACall Tryz.prog 19 [.c (.mp 0), .c (.d (.rp 0 (Tm.node k name arg num tk tks uk uks label place ks).cells)), .c (.d (.sl 0 3 (bds l))), .c (.d (pV p))] [.mp (.int .i8) 16 rulesM]
      (fun o σ => o = .ret (.tup [(drv (.node k name arg num tk tks uk uks label place ks) l p).1.val, .c (.d (.bool (drv (.node k name arg num tk tks uk uks label place ks) l p).2))]) ∧ σ = [.mp (.int .i8) 16 rulesM]) := by
  have c1 := pname_call k hk
  rw [drv]
  by_cases hb : pbad (ruleN k) ks.length p = true
  · rw [if_pos hb]
    cases p with
    | none => simp [pbad] at hb
    | some p =>
      obtain ⟨r, ⟨pk, pks⟩, qs⟩ := p
      simp only [pbad, Pf.rule, Pf.kids] at hb
      generalize ruleN k = R at *
      refine ACall.body tab_ok (ρ := 0) (N := 149) Tryz.func19 rfl rfl rfl rfl rfl ?_
      repeat' first | refine AW.seq ?_ | refine AW.block ?_ | (refine (id : AW _ _ _ (.region 2 _ true) _ _ → _) ?_; refine AW.draw (id := 2) tab_ok mixed [0, 1, 2, 3, 4, 5, 6, 7, 8, 9, 10, 11, 12, 13, 14, 15, 16, 17, 18, 19, 20, 21, 22, 23] (by kernel_rfl) ?_; conv => whnf) | (refine (id : AW _ _ _ (.region 14 _ true) _ _ → _) ?_; refine AW.drawT (id := 14) tab_ok mixed [0, 1, 2, 3, 4, 5, 6, 7, 8, 9, 10, 12, 11, 13, 14, 15, 16, 17, 18, 19] oTPv8_19_14 (by kernel_rfl) ?_; conv => whnf) | (refine (id : AW _ _ _ (.region 25 _ true) _ _ → _) ?_; refine AW.draw (id := 25) tab_ok mixed [0, 1, 2, 3, 4, 5, 6, 7, 8, 9, 10, 11, 12, 13, 14, 15, 16] (by kernel_rfl) ?_; conv => whnf) | (refine Fork.mk ?_ ?_ <;> conv => whnf) | ((first | refine AW.region tab_ok ?_ | refine AW.cond ?_ | refine AW.skip ?_ | refine AW.ret ?_ | refine AW.exit ?_); conv => whnf) | (refine (c1).mono ?_; rintro _ _ ⟨rfl, rfl⟩; conv => whnf) | ((first | refine And.intro (@rfl Val _) ?_ | refine And.intro (by decide) ?_ | refine cs (fun _ => ?_) (fun _ => ?_)) <;> conv => whnf)
      · exact ⟨rfl, rfl⟩
      · exact ⟨rfl, rfl⟩
      · rename_i g1 g2
        exfalso
        simp [prows_len, trows_length] at g1 g2 hb
        rcases hb with hb | hb
        · exact absurd g1 (of_decide_eq_false hb)
        · exact absurd (by omega) (of_decide_eq_false hb)
  · rw [if_neg hb]
    cases p with
    | some p =>
      obtain ⟨pr, ⟨pk, pks⟩, pqs⟩ := p
      simp only [pbad, Pf.rule, Pf.kids] at hb
      have hb1 : pr = ruleN k := by by_cases e : pr = ruleN k; exact e; simp [e] at hb
      have hql : pqs.length = ks.length := by by_cases e : pqs.length = ks.length; exact e; simp [hb1, e] at hb
      clear hb
      have step := fun i t zs => @drvs_step k name arg (.node tk tks) (.node uk uks) l (some (.node pr (.node pk pks) pqs)) ks i t zs
      generalize hR : ruleN k = R at *
      subst hb1
      have hR' : ruleN k = pr := hR
      refine ACall.body tab_ok (ρ := 0) (N := 149) Tryz.func19 rfl rfl rfl rfl rfl ?_
      repeat' first | refine AW.seq ?_ | refine AW.block ?_ | (refine (id : AW _ _ _ (.region 2 _ true) _ _ → _) ?_; refine AW.draw (id := 2) tab_ok mixed [0, 1, 2, 3, 4, 5, 6, 7, 8, 9, 10, 11, 12, 13, 14, 15, 16, 17, 18, 19, 20, 21, 22, 23] (by kernel_rfl) ?_; conv => whnf) | (refine (id : AW _ _ _ (.region 14 _ true) _ _ → _) ?_; refine AW.drawT (id := 14) tab_ok mixed [0, 1, 2, 3, 4, 5, 6, 7, 8, 9, 10, 12, 11, 13, 14, 15, 16, 17, 18, 19] oTPv8_19_14 (by kernel_rfl) ?_; conv => whnf) | (refine (id : AW _ _ _ (.region 25 _ true) _ _ → _) ?_; refine AW.draw (id := 25) tab_ok mixed [0, 1, 2, 3, 4, 5, 6, 7, 8, 9, 10, 11, 12, 13, 14, 15, 16] (by kernel_rfl) ?_; conv => whnf) | (refine Fork.mk ?_ ?_ <;> conv => whnf) | ((first | refine AW.region tab_ok ?_ | refine AW.cond ?_ | refine AW.skip ?_ | refine AW.ret ?_ | refine AW.exit ?_); conv => whnf) | (refine (c1).mono ?_; rintro _ _ ⟨rfl, rfl⟩; conv => whnf) | ((first | refine And.intro (@rfl Val _) ?_ | refine And.intro (by decide) ?_ | refine cs (fun _ => ?_) (fun _ => ?_)) <;> conv => whnf)
      · rename_i g; exfalso; simp at g
      · rename_i g; exfalso; simp [prows_len, trows_length, hql] at g
      refine AW.ghostE 25 2 11 (by decide) rfl ?_
      refine AW.ghost 28 4 2 3 (by decide) rfl rfl ?_
      refine AW.loop (ι := DrvI k name arg (.node tk tks) (.node uk uks) l (some (.node pr (.node pk pks) pqs)) ks) (fun x => ⟨149, [(54, .c (.d (.int .i64 x.i))), (53, .c (.d (.int .i64 (Tm.rows ks).length))), (0, .c (.mp 0)), (1, .c (.d (.rp 0 (Tm.node k name arg num tk tks uk uks label place ks).cells))), (2, .c (.d (.sl 0 3 (bds l)))), (3, .c (.d (.rp 0 (Pf.node pr (.node pk pks) pqs).cells))), (8, .c (.ptr 1 0)), (10, .c (.ptr 2 0)), (11, .c (.own 3 (Ty.rows (x.zs.map Pf.ty)).length))],
          [.mp (.int .i8) 16 rulesM, .var [.d (.str ⟨#[]⟩), .d (.int .i8 0), .d .nils, .d .nils], .var [.d (.str pr), .d (.int .i8 0), .d .nils, .own 4 (Pf.rows x.zs).length], .row 25 2 (Ty.rows (x.zs.map Pf.ty)), .row 28 4 (Pf.rows x.zs)], []⟩)
        (fun x => ks.length - x.i) ⟨0, Nat.zero_le _, [], rfl, by simp⟩ 5 (fun _ => rfl) (Nat.le_of_ble_eq_true rfl) ⟨⟨rfl, rfl, rfl, rfl, rfl, rfl, rfl, rfl, rfl, trivial⟩, rfl, rfl, ⟨[], rfl⟩, rfl⟩ (fun x => ?_)
      obtain ⟨i, hi, zs, hz, h⟩ := x
      by_cases hlt0 : i < ks.length
      · skip
        cases zs with
        | nil =>
          simp at hz
          subst hz
          repeat' first | refine AW.seq ?_ | refine AW.block ?_ | (refine (id : AW _ _ _ (.region 2 _ true) _ _ → _) ?_; refine AW.draw (id := 2) tab_ok mixed [0, 1, 2, 3, 4, 5, 6, 7, 8, 9, 10, 11, 12, 13, 14, 15, 16, 17, 18, 19, 20, 21, 22, 23] (by kernel_rfl) ?_; conv => whnf) | (refine (id : AW _ _ _ (.region 14 _ true) _ _ → _) ?_; refine AW.drawT (id := 14) tab_ok mixed [0, 1, 2, 3, 4, 5, 6, 7, 8, 9, 10, 12, 11, 13, 14, 15, 16, 17, 18, 19] oTPv8_19_14 (by kernel_rfl) ?_; conv => whnf) | (refine (id : AW _ _ _ (.region 25 _ true) _ _ → _) ?_; refine AW.draw (id := 25) tab_ok mixed [0, 1, 2, 3, 4, 5, 6, 7, 8, 9, 10, 11, 12, 13, 14, 15, 16] (by kernel_rfl) ?_; conv => whnf) | (refine Fork.mk ?_ ?_ <;> conv => whnf) | ((first | refine AW.region tab_ok ?_ | refine AW.cond ?_ | refine AW.skip ?_ | refine AW.ret ?_ | refine AW.exit ?_); conv => whnf) | (refine (c1).mono ?_; rintro _ _ ⟨rfl, rfl⟩; conv => whnf) | ((first | refine And.intro (@rfl Val _) ?_ | refine And.intro (by decide) ?_ | refine cs (fun _ => ?_) (fun _ => ?_)) <;> conv => whnf)
          · rename_i g1
            have hlt : 0 < ks.length := by have := of_decide_eq_true g1; rw [trows_length] at this; simp only at this; omega
            obtain ⟨t, ht⟩ : ∃ t, ks[0]? = some t := ⟨_, List.getElem?_eq_getElem hlt⟩
            have f1 : (0 : Int) ≤ (0 : Nat) ∧ ((0 : Nat) : Int) < ((Tm.rows ks).length : Nat) := by rw [trows_length]; omega
            have e1 : ∀ row, (Tm.rows ks)[((0 : Nat) : Int).toNat]? = some row → t.cells = row := fun row h => by
              obtain ⟨x, hx, rfl⟩ := trows_get ks 0 row h
              rw [ht] at hx; cases hx; rfl
            obtain ⟨s1, s2⟩ := step 0 t [] ht rfl h
            simp only [List.map_nil, List.headD_nil, pkid, Option.map_some, Pf.kids] at s1 s2
            have ci := inner_call k hk name arg num tk tks uk uks label place ks l (by omega) 0 unk
            have cd := ih t (List.mem_of_getElem? ht) (innerM k name arg (.node tk tks) (.node uk uks) l 0 unk) (some (pqs.getD 0 pf0)) (innerM_len ..) (hG 0 [] _ (congrArg Prod.fst h))
            generalize innerM k name arg (.node tk tks) (.node uk uks) l 0 unk = li at *
            rw [pV] at cd
            generalize hxp : pqs.getD 0 pf0 = xp at *
            generalize drv t li (some xp) = q at *
            have p1 : (0 : Int) ≤ ((0 : Nat) : Int) ∧ ((0 : Nat) : Int) < ((Pf.rows pqs).length : Nat) := by rw [prows_len, hql]; omega
            have p2 : ∀ row, (Pf.rows pqs)[((0 : Nat) : Int).toNat]? = some row → xp.cells = row := fun row h => by
              obtain ⟨y, hy, rfl⟩ := prows_get pqs 0 row (by simpa using h)
              rw [← hxp, List.getD_eq_getElem?_getD, hy]; rfl
            generalize xp.cells = xc at *
            obtain ⟨⟨qr, ⟨qk, qks⟩, qqs⟩, bq⟩ := q
            generalize t.cells = tc at *
            refine ⟨p1, fun row hrow => ?_⟩
            obtain rfl := p2 row hrow
            conv => whnf
            cases bq
            · skip
              repeat' first | ((refine And.intro f1 fun row hrow => ?_; obtain rfl := e1 row hrow; conv => whnf)) | ((refine And.intro p1 fun row hrow => ?_; obtain rfl := p2 row hrow; conv => whnf)) | ((refine And.intro (rfl : (_ : Nat) = _) ?_; conv => whnf)) | refine AW.seq ?_ | refine AW.block ?_ | (refine (id : AW _ _ _ (.region 2 _ true) _ _ → _) ?_; refine AW.draw (id := 2) tab_ok mixed [0, 1, 2, 3, 4, 5, 6, 7, 8, 9, 10, 11, 12, 13, 14, 15, 16, 17, 18, 19, 20, 21, 22, 23] (by kernel_rfl) ?_; conv => whnf) | (refine (id : AW _ _ _ (.region 14 _ true) _ _ → _) ?_; refine AW.drawT (id := 14) tab_ok mixed [0, 1, 2, 3, 4, 5, 6, 7, 8, 9, 10, 12, 11, 13, 14, 15, 16, 17, 18, 19] oTPv8_19_14 (by kernel_rfl) ?_; conv => whnf) | (refine (id : AW _ _ _ (.region 25 _ true) _ _ → _) ?_; refine AW.draw (id := 25) tab_ok mixed [0, 1, 2, 3, 4, 5, 6, 7, 8, 9, 10, 11, 12, 13, 14, 15, 16] (by kernel_rfl) ?_; conv => whnf) | (refine Fork.mk ?_ ?_ <;> conv => whnf) | ((first | refine AW.region tab_ok ?_ | refine AW.cond ?_ | refine AW.skip ?_ | refine AW.ret ?_ | refine AW.exit ?_); conv => whnf) | ((first | refine (ci).mono ?_ | refine (cd).mono ?_); rintro _ _ ⟨rfl, rfl⟩; conv => whnf) | ((first | refine And.intro (@rfl Val _) ?_ | refine And.intro (by decide) ?_ | refine cs (fun _ => ?_) (fun _ => ?_)) <;> conv => whnf)
              all_goals (rw [s2 rfl]; simp only [drvF, if_true]; rw [hR']; exact ⟨rfl, rfl⟩)
            · have hb1 : bnd (0 + 1) 32 := by simp [bnd]
              have hb2 : bnd (0 + 1) 72 := by simp [bnd]
              repeat' first | ((refine And.intro f1 fun row hrow => ?_; obtain rfl := e1 row hrow; conv => whnf)) | ((refine And.intro p1 fun row hrow => ?_; obtain rfl := p2 row hrow; conv => whnf)) | ((refine And.intro ⟨rfl, hb1⟩ ?_; conv => whnf)) | ((refine And.intro ⟨rfl, hb2⟩ ?_; conv => whnf)) | ((refine And.intro (rfl : (_ : Nat) = _) ?_; conv => whnf)) | refine AW.seq ?_ | refine AW.block ?_ | (refine (id : AW _ _ _ (.region 2 _ true) _ _ → _) ?_; refine AW.draw (id := 2) tab_ok mixed [0, 1, 2, 3, 4, 5, 6, 7, 8, 9, 10, 11, 12, 13, 14, 15, 16, 17, 18, 19, 20, 21, 22, 23] (by kernel_rfl) ?_; conv => whnf) | (refine (id : AW _ _ _ (.region 14 _ true) _ _ → _) ?_; refine AW.drawT (id := 14) tab_ok mixed [0, 1, 2, 3, 4, 5, 6, 7, 8, 9, 10, 12, 11, 13, 14, 15, 16, 17, 18, 19] oTPv8_19_14 (by kernel_rfl) ?_; conv => whnf) | (refine (id : AW _ _ _ (.region 25 _ true) _ _ → _) ?_; refine AW.draw (id := 25) tab_ok mixed [0, 1, 2, 3, 4, 5, 6, 7, 8, 9, 10, 11, 12, 13, 14, 15, 16] (by kernel_rfl) ?_; conv => whnf) | (refine Fork.mk ?_ ?_ <;> conv => whnf) | ((first | refine AW.region tab_ok ?_ | refine AW.cond ?_ | refine AW.skip ?_ | refine AW.ret ?_ | refine AW.exit ?_); conv => whnf) | ((first | refine (ci).mono ?_ | refine (cd).mono ?_); rintro _ _ ⟨rfl, rfl⟩; conv => whnf) | ((first | refine And.intro (@rfl Val _) ?_ | refine And.intro (by decide) ?_ | refine cs (fun _ => ?_) (fun _ => ?_)) <;> conv => whnf)
              all_goals exact ⟨⟨1, hlt, [.node qr (.node qk qks) qqs], rfl, s1 rfl⟩, ⟨⟨rfl, rfl, rfl, rfl, rfl, rfl, rfl, rfl, rfl, trivial⟩, rfl, rfl, ⟨_, rfl⟩, rfl⟩, show ks.length - 1 < ks.length - 0 by omega⟩
          all_goals (rename_i g _; exfalso; have g := of_decide_eq_false g; rw [trows_length] at g; simp only at g; omega)
        | cons z zs =>
          have hzl : zs.length + 1 = i := by simpa using hz
          have h0 : ¬ i = 0 := by omega
          have hL : (z :: zs).length ≤ ks.length := by rw [hz]; exact hi
          generalize hLz : z :: zs = L at *
          have hLh : (L.map Pf.ty).headD unk = z.ty := by rw [← hLz]; rfl
          have hLr : Ty.rows (L.map Pf.ty) = z.ty.cells :: Ty.rows (zs.map Pf.ty) := by rw [← hLz]; rfl
          have hb1 : bnd ((Ty.rows (L.map Pf.ty)).length + 1) 32 := by simp only [bnd, rows_length, List.length_map]; omega
          have hb2 : bnd ((Pf.rows L).length + 1) 72 := by simp only [bnd, prows_len]; omega
          obtain ⟨zr, ⟨zk, zks⟩, zqs⟩ := z
          simp only [Pf.ty] at hLh hLr
          repeat' first | refine AW.seq ?_ | refine AW.block ?_ | (refine (id : AW _ _ _ (.region 2 _ true) _ _ → _) ?_; refine AW.draw (id := 2) tab_ok mixed [0, 1, 2, 3, 4, 5, 6, 7, 8, 9, 10, 11, 12, 13, 14, 15, 16, 17, 18, 19, 20, 21, 22, 23] (by kernel_rfl) ?_; conv => whnf) | (refine (id : AW _ _ _ (.region 14 _ true) _ _ → _) ?_; refine AW.drawT (id := 14) tab_ok mixed [0, 1, 2, 3, 4, 5, 6, 7, 8, 9, 10, 12, 11, 13, 14, 15, 16, 17, 18, 19] oTPv8_19_14 (by kernel_rfl) ?_; conv => whnf) | (refine (id : AW _ _ _ (.region 25 _ true) _ _ → _) ?_; refine AW.draw (id := 25) tab_ok mixed [0, 1, 2, 3, 4, 5, 6, 7, 8, 9, 10, 11, 12, 13, 14, 15, 16] (by kernel_rfl) ?_; conv => whnf) | (refine Fork.mk ?_ ?_ <;> conv => whnf) | ((first | refine AW.region tab_ok ?_ | refine AW.cond ?_ | refine AW.skip ?_ | refine AW.ret ?_ | refine AW.exit ?_); conv => whnf) | (refine (c1).mono ?_; rintro _ _ ⟨rfl, rfl⟩; conv => whnf) | ((first | refine And.intro (@rfl Val _) ?_ | refine And.intro (by decide) ?_ | refine cs (fun _ => ?_) (fun _ => ?_)) <;> conv => whnf)
          · rename_i g1
            have hlt : i < ks.length := by have := of_decide_eq_true g1; rw [trows_length] at this; simp only at this; omega
            obtain ⟨t, ht⟩ : ∃ t, ks[i]? = some t := ⟨_, List.getElem?_eq_getElem hlt⟩
            have f1 : (0 : Int) ≤ (i : Int) ∧ (i : Int) < ((Tm.rows ks).length : Nat) := by rw [trows_length]; omega
            have e1 : ∀ row, (Tm.rows ks)[((i : Nat) : Int).toNat]? = some row → t.cells = row := fun row h => by
              obtain ⟨x, hx, rfl⟩ := trows_get ks i row (by simpa using h)
              rw [ht] at hx; cases hx; rfl
            have f2 : (Ty.rows (L.map Pf.ty)).length = (Ty.rows (L.map Pf.ty)).length ∧ (0 : Int) ≤ 0 ∧ (0 : Int) < ((Ty.rows (L.map Pf.ty)).length : Nat) := ⟨rfl, by decide, by rw [hLr]; simp <;> omega⟩
            have f3 : (Ty.rows (L.map Pf.ty)).length = (Ty.rows (L.map Pf.ty)).length ∧ Int.toNat 0 < (Ty.rows (L.map Pf.ty)).length := ⟨rfl, by rw [hLr]; simp⟩
            have e3 : ∀ row, (Ty.rows (L.map Pf.ty))[Int.toNat 0]? = some row → (Ty.node zk zks).cells = row := fun row h => by
              rw [hLr] at h; exact Option.some.inj h
            obtain ⟨s1, s2⟩ := step i t L ht hz h
            rw [hLh] at s1 s2
            simp only [pkid, Option.map_some, Pf.kids] at s1 s2
            have ci := inner_call k hk name arg num tk tks uk uks label place ks l (by omega) i (.node zk zks)
            have cd := ih t (List.mem_of_getElem? ht) (innerM k name arg (.node tk tks) (.node uk uks) l i (.node zk zks)) (some (pqs.getD i pf0)) (innerM_len ..) (by have := hG i L _ (congrArg Prod.fst h); rwa [hLh] at this)
            generalize innerM k name arg (.node tk tks) (.node uk uks) l i (.node zk zks) = li at *
            rw [pV] at cd
            generalize hxp : pqs.getD i pf0 = xp at *
            generalize drv t li (some xp) = q at *
            have p1 : (0 : Int) ≤ (i : Int) ∧ (i : Int) < ((Pf.rows pqs).length : Nat) := by rw [prows_len, hql]; omega
            have p2 : ∀ row, (Pf.rows pqs)[((i : Nat) : Int).toNat]? = some row → xp.cells = row := fun row h => by
              obtain ⟨y, hy, rfl⟩ := prows_get pqs i row (by simpa using h)
              rw [← hxp, List.getD_eq_getElem?_getD, hy]; rfl
            generalize xp.cells = xc at *
            obtain ⟨⟨qr, ⟨qk, qks⟩, qqs⟩, bq⟩ := q
            generalize t.cells = tc at *
            have hT : Ty.rows ((L ++ [Pf.node qr (.node qk qks) qqs]).map Pf.ty) = Ty.rows (L.map Pf.ty) ++ [[.int .i8 qk, .sl 0 2 (Ty.rows qks)]] := by rw [List.map_append, tyrows_app]; rfl
            have hP : Pf.rows (L ++ [.node qr (.node qk qks) qqs]) = Pf.rows L ++ [[.str qr, .int .i8 qk, .sl 0 2 (Ty.rows qks), .sl 0 4 (Pf.rows qqs)]] := by rw [prows_app]; rfl
            have hTl : (Ty.rows (L.map Pf.ty)).length + [[DV.int .i8 qk, .sl 0 2 (Ty.rows qks)]].length = (Ty.rows ((L ++ [Pf.node qr (.node qk qks) qqs]).map Pf.ty)).length := by rw [hT, List.length_append]
            have hPl : (Pf.rows L).length + [[DV.str qr, .int .i8 qk, .sl 0 2 (Ty.rows qks), .sl 0 4 (Pf.rows qqs)]].length = (Pf.rows (L ++ [.node qr (.node qk qks) qqs])).length := by rw [hP, List.length_append]
            refine ⟨p1, fun row hrow => ?_⟩
            obtain rfl := p2 row hrow
            conv => whnf
            cases bq
            · skip
              repeat' first | ((refine And.intro f1 fun row hrow => ?_; obtain rfl := e1 row hrow; conv => whnf)) | ((refine And.intro p1 fun row hrow => ?_; obtain rfl := p2 row hrow; conv => whnf)) | ((refine And.intro f2 ?_; conv => whnf)) | ((refine And.intro f3 fun row hrow => ?_; obtain rfl := e3 row hrow; conv => whnf)) | ((refine And.intro (rfl : (_ : Nat) = _) ?_; conv => whnf)) | refine AW.seq ?_ | refine AW.block ?_ | (refine (id : AW _ _ _ (.region 2 _ true) _ _ → _) ?_; refine AW.draw (id := 2) tab_ok mixed [0, 1, 2, 3, 4, 5, 6, 7, 8, 9, 10, 11, 12, 13, 14, 15, 16, 17, 18, 19, 20, 21, 22, 23] (by kernel_rfl) ?_; conv => whnf) | (refine (id : AW _ _ _ (.region 14 _ true) _ _ → _) ?_; refine AW.drawT (id := 14) tab_ok mixed [0, 1, 2, 3, 4, 5, 6, 7, 8, 9, 10, 12, 11, 13, 14, 15, 16, 17, 18, 19] oTPv8_19_14 (by kernel_rfl) ?_; conv => whnf) | (refine (id : AW _ _ _ (.region 25 _ true) _ _ → _) ?_; refine AW.draw (id := 25) tab_ok mixed [0, 1, 2, 3, 4, 5, 6, 7, 8, 9, 10, 11, 12, 13, 14, 15, 16] (by kernel_rfl) ?_; conv => whnf) | (refine Fork.mk ?_ ?_ <;> conv => whnf) | ((first | refine AW.region tab_ok ?_ | refine AW.cond ?_ | refine AW.skip ?_ | refine AW.ret ?_ | refine AW.exit ?_); conv => whnf) | ((first | refine (ci).mono ?_ | refine (cd).mono ?_); rintro _ _ ⟨rfl, rfl⟩; conv => whnf) | ((first | refine And.intro (@rfl Val _) ?_ | refine And.intro (by decide) ?_ | refine cs (fun _ => ?_) (fun _ => ?_)) <;> conv => whnf)
              all_goals first | (rw [s2 rfl]; simp only [drvF, if_true]; rw [hR']; exact ⟨rfl, rfl⟩) | (exfalso; rename_i g; have g := of_decide_eq_false g; simp only at g; omega) | (exfalso; rename_i g _; have g := of_decide_eq_false g; simp only at g; omega)
            · skip
              repeat' first | ((refine And.intro f1 fun row hrow => ?_; obtain rfl := e1 row hrow; conv => whnf)) | ((refine And.intro p1 fun row hrow => ?_; obtain rfl := p2 row hrow; conv => whnf)) | ((refine And.intro f2 ?_; conv => whnf)) | ((refine And.intro f3 fun row hrow => ?_; obtain rfl := e3 row hrow; conv => whnf)) | ((refine And.intro ⟨rfl, hb1⟩ ?_; conv => whnf)) | ((refine And.intro ⟨rfl, hb2⟩ ?_; conv => whnf)) | ((refine And.intro (rfl : (_ : Nat) = _) ?_; conv => whnf)) | refine AW.seq ?_ | refine AW.block ?_ | (refine (id : AW _ _ _ (.region 2 _ true) _ _ → _) ?_; refine AW.draw (id := 2) tab_ok mixed [0, 1, 2, 3, 4, 5, 6, 7, 8, 9, 10, 11, 12, 13, 14, 15, 16, 17, 18, 19, 20, 21, 22, 23] (by kernel_rfl) ?_; conv => whnf) | (refine (id : AW _ _ _ (.region 14 _ true) _ _ → _) ?_; refine AW.drawT (id := 14) tab_ok mixed [0, 1, 2, 3, 4, 5, 6, 7, 8, 9, 10, 12, 11, 13, 14, 15, 16, 17, 18, 19] oTPv8_19_14 (by kernel_rfl) ?_; conv => whnf) | (refine (id : AW _ _ _ (.region 25 _ true) _ _ → _) ?_; refine AW.draw (id := 25) tab_ok mixed [0, 1, 2, 3, 4, 5, 6, 7, 8, 9, 10, 11, 12, 13, 14, 15, 16] (by kernel_rfl) ?_; conv => whnf) | (refine Fork.mk ?_ ?_ <;> conv => whnf) | ((first | refine AW.region tab_ok ?_ | refine AW.cond ?_ | refine AW.skip ?_ | refine AW.ret ?_ | refine AW.exit ?_); conv => whnf) | ((first | refine (ci).mono ?_ | refine (cd).mono ?_); rintro _ _ ⟨rfl, rfl⟩; conv => whnf) | ((first | refine And.intro (@rfl Val _) ?_ | refine And.intro (by decide) ?_ | refine cs (fun _ => ?_) (fun _ => ?_)) <;> conv => whnf)
              all_goals first | (rw [hTl, hPl, ← hT, ← hP, wrap64 (x := ((i : Nat) : Int) + 1) (by omega) (by omega)]; exact ⟨⟨i + 1, hlt, L ++ [.node qr (.node qk qks) qqs], by simp [hz], s1 rfl⟩, ⟨⟨rfl, rfl, rfl, rfl, rfl, rfl, rfl, rfl, rfl, trivial⟩, rfl, rfl, ⟨_, rfl⟩, rfl⟩, show ks.length - (i + 1) < ks.length - i by omega⟩) | (exfalso; rename_i g; have g := of_decide_eq_false g; simp only at g; omega) | (exfalso; rename_i g _; have g := of_decide_eq_false g; simp only at g; omega)
          all_goals (rename_i g _; exfalso; have g := of_decide_eq_false g; rw [trows_length] at g; simp only at g; omega)
      · obtain rfl : i = ks.length := by omega
        simp only [List.drop_length, drvs, List.append_nil] at h
        have fin := derive_rest1 k hk name arg num tk tks uk uks label place ks l zs pr pk pks pqs hl (by rw [hz]; exact hn) (hok zs h)
        rw [hR'] at fin
        rw [h]
        repeat' first | ((refine AW.fits ?_ ?_ fin; rotate_left; rfl; refine ⟨?_, ?_, ?_, ?_, ?_⟩; rotate_left; rfl; rfl; exact ⟨[], rfl⟩; rfl; refine ⟨?_, ?_, ?_, ?_, ?_, ?_, ?_, trivial⟩ <;> rfl)) | refine AW.seq ?_ | refine AW.block ?_ | (refine (id : AW _ _ _ (.region 2 _ true) _ _ → _) ?_; refine AW.draw (id := 2) tab_ok mixed [0, 1, 2, 3, 4, 5, 6, 7, 8, 9, 10, 11, 12, 13, 14, 15, 16, 17, 18, 19, 20, 21, 22, 23] (by kernel_rfl) ?_; conv => whnf) | (refine (id : AW _ _ _ (.region 14 _ true) _ _ → _) ?_; refine AW.drawT (id := 14) tab_ok mixed [0, 1, 2, 3, 4, 5, 6, 7, 8, 9, 10, 12, 11, 13, 14, 15, 16, 17, 18, 19] oTPv8_19_14 (by kernel_rfl) ?_; conv => whnf) | (refine (id : AW _ _ _ (.region 25 _ true) _ _ → _) ?_; refine AW.draw (id := 25) tab_ok mixed [0, 1, 2, 3, 4, 5, 6, 7, 8, 9, 10, 11, 12, 13, 14, 15, 16] (by kernel_rfl) ?_; conv => whnf) | (refine Fork.mk ?_ ?_ <;> conv => whnf) | ((first | refine AW.region tab_ok ?_ | refine AW.cond ?_ | refine AW.skip ?_ | refine AW.ret ?_ | refine AW.exit ?_); conv => whnf) | (refine (c1).mono ?_; rintro _ _ ⟨rfl, rfl⟩; conv => whnf) | ((first | refine And.intro (@rfl Val _) ?_ | refine And.intro (by decide) ?_ | refine cs (fun _ => ?_) (fun _ => ?_)) <;> conv => whnf)
        all_goals first | (rename_i g _; exfalso; have g := of_decide_eq_true g; rw [trows_length] at g; simp only at g; omega) | (rename_i g; exfalso; have g := of_decide_eq_true g; rw [trows_length] at g; simp only at g; omega)
    | none =>
      have step := fun i t zs => @drvs_step k name arg (.node tk tks) (.node uk uks) l none ks i t zs
      generalize hR : ruleN k = R at *
      refine ACall.body tab_ok (ρ := 0) (N := 149) Tryz.func19 rfl rfl rfl rfl rfl ?_
      repeat' first | refine AW.seq ?_ | refine AW.block ?_ | (refine (id : AW _ _ _ (.region 2 _ true) _ _ → _) ?_; refine AW.draw (id := 2) tab_ok mixed [0, 1, 2, 3, 4, 5, 6, 7, 8, 9, 10, 11, 12, 13, 14, 15, 16, 17, 18, 19, 20, 21, 22, 23] (by kernel_rfl) ?_; conv => whnf) | (refine (id : AW _ _ _ (.region 14 _ true) _ _ → _) ?_; refine AW.drawT (id := 14) tab_ok mixed [0, 1, 2, 3, 4, 5, 6, 7, 8, 9, 10, 12, 11, 13, 14, 15, 16, 17, 18, 19] oTPv8_19_14 (by kernel_rfl) ?_; conv => whnf) | (refine (id : AW _ _ _ (.region 25 _ true) _ _ → _) ?_; refine AW.draw (id := 25) tab_ok mixed [0, 1, 2, 3, 4, 5, 6, 7, 8, 9, 10, 11, 12, 13, 14, 15, 16] (by kernel_rfl) ?_; conv => whnf) | (refine Fork.mk ?_ ?_ <;> conv => whnf) | ((first | refine AW.region tab_ok ?_ | refine AW.cond ?_ | refine AW.skip ?_ | refine AW.ret ?_ | refine AW.exit ?_); conv => whnf) | (refine (c1).mono ?_; rintro _ _ ⟨rfl, rfl⟩; conv => whnf) | ((first | refine And.intro (@rfl Val _) ?_ | refine And.intro (by decide) ?_ | refine cs (fun _ => ?_) (fun _ => ?_)) <;> conv => whnf)
      refine AW.ghostE 25 2 11 (by decide) rfl ?_
      refine AW.ghost 28 4 2 3 (by decide) rfl rfl ?_
      refine AW.loop (ι := DrvI k name arg (.node tk tks) (.node uk uks) l none ks) (fun x => ⟨149, [(54, .c (.d (.int .i64 x.i))), (53, .c (.d (.int .i64 (Tm.rows ks).length))), (0, .c (.mp 0)), (1, .c (.d (.rp 0 (Tm.node k name arg num tk tks uk uks label place ks).cells))), (2, .c (.d (.sl 0 3 (bds l)))), (3, .c (.d .nilp)), (8, .c (.ptr 1 0)), (10, .c (.ptr 2 0)), (11, .c (.own 3 (Ty.rows (x.zs.map Pf.ty)).length))],
          [.mp (.int .i8) 16 rulesM, .var [.d (.str ⟨#[]⟩), .d (.int .i8 0), .d .nils, .d .nils], .var [.d (.str R), .d (.int .i8 0), .d .nils, .own 4 (Pf.rows x.zs).length], .row 25 2 (Ty.rows (x.zs.map Pf.ty)), .row 28 4 (Pf.rows x.zs)], []⟩)
        (fun x => ks.length - x.i) ⟨0, Nat.zero_le _, [], rfl, by simp⟩ 5 (fun _ => rfl) (Nat.le_of_ble_eq_true rfl) ⟨⟨rfl, rfl, rfl, rfl, rfl, rfl, rfl, rfl, rfl, trivial⟩, rfl, rfl, ⟨[], rfl⟩, rfl⟩ (fun x => ?_)
      obtain ⟨i, hi, zs, hz, h⟩ := x
      by_cases hlt0 : i < ks.length
      · skip
        cases zs with
        | nil =>
          simp at hz
          subst hz
          repeat' first | refine AW.seq ?_ | refine AW.block ?_ | (refine (id : AW _ _ _ (.region 2 _ true) _ _ → _) ?_; refine AW.draw (id := 2) tab_ok mixed [0, 1, 2, 3, 4, 5, 6, 7, 8, 9, 10, 11, 12, 13, 14, 15, 16, 17, 18, 19, 20, 21, 22, 23] (by kernel_rfl) ?_; conv => whnf) | (refine (id : AW _ _ _ (.region 14 _ true) _ _ → _) ?_; refine AW.drawT (id := 14) tab_ok mixed [0, 1, 2, 3, 4, 5, 6, 7, 8, 9, 10, 12, 11, 13, 14, 15, 16, 17, 18, 19] oTPv8_19_14 (by kernel_rfl) ?_; conv => whnf) | (refine (id : AW _ _ _ (.region 25 _ true) _ _ → _) ?_; refine AW.draw (id := 25) tab_ok mixed [0, 1, 2, 3, 4, 5, 6, 7, 8, 9, 10, 11, 12, 13, 14, 15, 16] (by kernel_rfl) ?_; conv => whnf) | (refine Fork.mk ?_ ?_ <;> conv => whnf) | ((first | refine AW.region tab_ok ?_ | refine AW.cond ?_ | refine AW.skip ?_ | refine AW.ret ?_ | refine AW.exit ?_); conv => whnf) | (refine (c1).mono ?_; rintro _ _ ⟨rfl, rfl⟩; conv => whnf) | ((first | refine And.intro (@rfl Val _) ?_ | refine And.intro (by decide) ?_ | refine cs (fun _ => ?_) (fun _ => ?_)) <;> conv => whnf)
          · rename_i g1
            have hlt : 0 < ks.length := by have := of_decide_eq_true g1; rw [trows_length] at this; simp only at this; omega
            obtain ⟨t, ht⟩ : ∃ t, ks[0]? = some t := ⟨_, List.getElem?_eq_getElem hlt⟩
            have f1 : (0 : Int) ≤ (0 : Nat) ∧ ((0 : Nat) : Int) < ((Tm.rows ks).length : Nat) := by rw [trows_length]; omega
            have e1 : ∀ row, (Tm.rows ks)[((0 : Nat) : Int).toNat]? = some row → t.cells = row := fun row h => by
              obtain ⟨x, hx, rfl⟩ := trows_get ks 0 row h
              rw [ht] at hx; cases hx; rfl
            obtain ⟨s1, s2⟩ := step 0 t [] ht rfl h
            simp only [List.map_nil, List.headD_nil, pkid, Option.map_none] at s1 s2
            have ci := inner_call k hk name arg num tk tks uk uks label place ks l (by omega) 0 unk
            have cd := ih t (List.mem_of_getElem? ht) (innerM k name arg (.node tk tks) (.node uk uks) l 0 unk) none (innerM_len ..) (hG 0 [] _ (congrArg Prod.fst h))
            generalize innerM k name arg (.node tk tks) (.node uk uks) l 0 unk = li at *
            generalize drv t li none = q at *
            obtain ⟨⟨qr, ⟨qk, qks⟩, qqs⟩, bq⟩ := q
            generalize t.cells = tc at *
            refine ⟨f1, fun row hrow => ?_⟩
            obtain rfl := e1 row hrow
            conv => whnf
            cases bq
            · skip
              repeat' first | ((refine And.intro f1 fun row hrow => ?_; obtain rfl := e1 row hrow; conv => whnf)) | ((refine And.intro (rfl : (_ : Nat) = _) ?_; conv => whnf)) | refine AW.seq ?_ | refine AW.block ?_ | (refine (id : AW _ _ _ (.region 2 _ true) _ _ → _) ?_; refine AW.draw (id := 2) tab_ok mixed [0, 1, 2, 3, 4, 5, 6, 7, 8, 9, 10, 11, 12, 13, 14, 15, 16, 17, 18, 19, 20, 21, 22, 23] (by kernel_rfl) ?_; conv => whnf) | (refine (id : AW _ _ _ (.region 14 _ true) _ _ → _) ?_; refine AW.drawT (id := 14) tab_ok mixed [0, 1, 2, 3, 4, 5, 6, 7, 8, 9, 10, 12, 11, 13, 14, 15, 16, 17, 18, 19] oTPv8_19_14 (by kernel_rfl) ?_; conv => whnf) | (refine (id : AW _ _ _ (.region 25 _ true) _ _ → _) ?_; refine AW.draw (id := 25) tab_ok mixed [0, 1, 2, 3, 4, 5, 6, 7, 8, 9, 10, 11, 12, 13, 14, 15, 16] (by kernel_rfl) ?_; conv => whnf) | (refine Fork.mk ?_ ?_ <;> conv => whnf) | ((first | refine AW.region tab_ok ?_ | refine AW.cond ?_ | refine AW.skip ?_ | refine AW.ret ?_ | refine AW.exit ?_); conv => whnf) | ((first | refine (ci).mono ?_ | refine (cd).mono ?_); rintro _ _ ⟨rfl, rfl⟩; conv => whnf) | ((first | refine And.intro (@rfl Val _) ?_ | refine And.intro (by decide) ?_ | refine cs (fun _ => ?_) (fun _ => ?_)) <;> conv => whnf)
              all_goals (rw [s2 rfl]; simp only [drvF, if_true]; rw [hR]; exact ⟨rfl, rfl⟩)
            · have hb1 : bnd (0 + 1) 32 := by simp [bnd]
              have hb2 : bnd (0 + 1) 72 := by simp [bnd]
              repeat' first | ((refine And.intro f1 fun row hrow => ?_; obtain rfl := e1 row hrow; conv => whnf)) | ((refine And.intro ⟨rfl, hb1⟩ ?_; conv => whnf)) | ((refine And.intro ⟨rfl, hb2⟩ ?_; conv => whnf)) | ((refine And.intro (rfl : (_ : Nat) = _) ?_; conv => whnf)) | refine AW.seq ?_ | refine AW.block ?_ | (refine (id : AW _ _ _ (.region 2 _ true) _ _ → _) ?_; refine AW.draw (id := 2) tab_ok mixed [0, 1, 2, 3, 4, 5, 6, 7, 8, 9, 10, 11, 12, 13, 14, 15, 16, 17, 18, 19, 20, 21, 22, 23] (by kernel_rfl) ?_; conv => whnf) | (refine (id : AW _ _ _ (.region 14 _ true) _ _ → _) ?_; refine AW.drawT (id := 14) tab_ok mixed [0, 1, 2, 3, 4, 5, 6, 7, 8, 9, 10, 12, 11, 13, 14, 15, 16, 17, 18, 19] oTPv8_19_14 (by kernel_rfl) ?_; conv => whnf) | (refine (id : AW _ _ _ (.region 25 _ true) _ _ → _) ?_; refine AW.draw (id := 25) tab_ok mixed [0, 1, 2, 3, 4, 5, 6, 7, 8, 9, 10, 11, 12, 13, 14, 15, 16] (by kernel_rfl) ?_; conv => whnf) | (refine Fork.mk ?_ ?_ <;> conv => whnf) | ((first | refine AW.region tab_ok ?_ | refine AW.cond ?_ | refine AW.skip ?_ | refine AW.ret ?_ | refine AW.exit ?_); conv => whnf) | ((first | refine (ci).mono ?_ | refine (cd).mono ?_); rintro _ _ ⟨rfl, rfl⟩; conv => whnf) | ((first | refine And.intro (@rfl Val _) ?_ | refine And.intro (by decide) ?_ | refine cs (fun _ => ?_) (fun _ => ?_)) <;> conv => whnf)
              all_goals exact ⟨⟨1, hlt, [.node qr (.node qk qks) qqs], rfl, s1 rfl⟩, ⟨⟨rfl, rfl, rfl, rfl, rfl, rfl, rfl, rfl, rfl, trivial⟩, rfl, rfl, ⟨_, rfl⟩, rfl⟩, show ks.length - 1 < ks.length - 0 by omega⟩
          all_goals (rename_i g _; exfalso; have g := of_decide_eq_false g; rw [trows_length] at g; simp only at g; omega)
        | cons z zs =>
          have hzl : zs.length + 1 = i := by simpa using hz
          have h0 : ¬ i = 0 := by omega
          have hL : (z :: zs).length ≤ ks.length := by rw [hz]; exact hi
          generalize hLz : z :: zs = L at *
          have hLh : (L.map Pf.ty).headD unk = z.ty := by rw [← hLz]; rfl
          have hLr : Ty.rows (L.map Pf.ty) = z.ty.cells :: Ty.rows (zs.map Pf.ty) := by rw [← hLz]; rfl
          have hb1 : bnd ((Ty.rows (L.map Pf.ty)).length + 1) 32 := by simp only [bnd, rows_length, List.length_map]; omega
          have hb2 : bnd ((Pf.rows L).length + 1) 72 := by simp only [bnd, prows_len]; omega
          obtain ⟨zr, ⟨zk, zks⟩, zqs⟩ := z
          simp only [Pf.ty] at hLh hLr
          repeat' first | refine AW.seq ?_ | refine AW.block ?_ | (refine (id : AW _ _ _ (.region 2 _ true) _ _ → _) ?_; refine AW.draw (id := 2) tab_ok mixed [0, 1, 2, 3, 4, 5, 6, 7, 8, 9, 10, 11, 12, 13, 14, 15, 16, 17, 18, 19, 20, 21, 22, 23] (by kernel_rfl) ?_; conv => whnf) | (refine (id : AW _ _ _ (.region 14 _ true) _ _ → _) ?_; refine AW.drawT (id := 14) tab_ok mixed [0, 1, 2, 3, 4, 5, 6, 7, 8, 9, 10, 12, 11, 13, 14, 15, 16, 17, 18, 19] oTPv8_19_14 (by kernel_rfl) ?_; conv => whnf) | (refine (id : AW _ _ _ (.region 25 _ true) _ _ → _) ?_; refine AW.draw (id := 25) tab_ok mixed [0, 1, 2, 3, 4, 5, 6, 7, 8, 9, 10, 11, 12, 13, 14, 15, 16] (by kernel_rfl) ?_; conv => whnf) | (refine Fork.mk ?_ ?_ <;> conv => whnf) | ((first | refine AW.region tab_ok ?_ | refine AW.cond ?_ | refine AW.skip ?_ | refine AW.ret ?_ | refine AW.exit ?_); conv => whnf) | (refine (c1).mono ?_; rintro _ _ ⟨rfl, rfl⟩; conv => whnf) | ((first | refine And.intro (@rfl Val _) ?_ | refine And.intro (by decide) ?_ | refine cs (fun _ => ?_) (fun _ => ?_)) <;> conv => whnf)
          · rename_i g1 g2
            have hlt : i < ks.length := by have := of_decide_eq_true g1; rw [trows_length] at this; simp only at this; omega
            obtain ⟨t, ht⟩ : ∃ t, ks[i]? = some t := ⟨_, List.getElem?_eq_getElem hlt⟩
            have f1 : (0 : Int) ≤ (i : Int) ∧ (i : Int) < ((Tm.rows ks).length : Nat) := by rw [trows_length]; omega
            have e1 : ∀ row, (Tm.rows ks)[((i : Nat) : Int).toNat]? = some row → t.cells = row := fun row h => by
              obtain ⟨x, hx, rfl⟩ := trows_get ks i row (by simpa using h)
              rw [ht] at hx; cases hx; rfl
            have f2 : (Ty.rows (L.map Pf.ty)).length = (Ty.rows (L.map Pf.ty)).length ∧ (0 : Int) ≤ 0 ∧ (0 : Int) < ((Ty.rows (L.map Pf.ty)).length : Nat) := ⟨rfl, by decide, by rw [hLr]; simp <;> omega⟩
            have f3 : (Ty.rows (L.map Pf.ty)).length = (Ty.rows (L.map Pf.ty)).length ∧ Int.toNat 0 < (Ty.rows (L.map Pf.ty)).length := ⟨rfl, by rw [hLr]; simp⟩
            have e3 : ∀ row, (Ty.rows (L.map Pf.ty))[Int.toNat 0]? = some row → (Ty.node zk zks).cells = row := fun row h => by
              rw [hLr] at h; exact Option.some.inj h
            obtain ⟨s1, s2⟩ := step i t L ht hz h
            rw [hLh] at s1 s2
            simp only [pkid, Option.map_none] at s1 s2
            have ci := inner_call k hk name arg num tk tks uk uks label place ks l (by omega) i (.node zk zks)
            have cd := ih t (List.mem_of_getElem? ht) (innerM k name arg (.node tk tks) (.node uk uks) l i (.node zk zks)) none (innerM_len ..) (by have := hG i L _ (congrArg Prod.fst h); rwa [hLh] at this)
            generalize innerM k name arg (.node tk tks) (.node uk uks) l i (.node zk zks) = li at *
            generalize drv t li none = q at *
            obtain ⟨⟨qr, ⟨qk, qks⟩, qqs⟩, bq⟩ := q
            generalize t.cells = tc at *
            have hT : Ty.rows ((L ++ [Pf.node qr (.node qk qks) qqs]).map Pf.ty) = Ty.rows (L.map Pf.ty) ++ [[.int .i8 qk, .sl 0 2 (Ty.rows qks)]] := by rw [List.map_append, tyrows_app]; rfl
            have hP : Pf.rows (L ++ [.node qr (.node qk qks) qqs]) = Pf.rows L ++ [[.str qr, .int .i8 qk, .sl 0 2 (Ty.rows qks), .sl 0 4 (Pf.rows qqs)]] := by rw [prows_app]; rfl
            have hTl : (Ty.rows (L.map Pf.ty)).length + [[DV.int .i8 qk, .sl 0 2 (Ty.rows qks)]].length = (Ty.rows ((L ++ [Pf.node qr (.node qk qks) qqs]).map Pf.ty)).length := by rw [hT, List.length_append]
            have hPl : (Pf.rows L).length + [[DV.str qr, .int .i8 qk, .sl 0 2 (Ty.rows qks), .sl 0 4 (Pf.rows qqs)]].length = (Pf.rows (L ++ [.node qr (.node qk qks) qqs])).length := by rw [hP, List.length_append]
            refine ⟨f2, ?_⟩
            conv => whnf
            cases bq
            · skip
              repeat' first | ((refine And.intro f1 fun row hrow => ?_; obtain rfl := e1 row hrow; conv => whnf)) | ((refine And.intro f3 fun row hrow => ?_; obtain rfl := e3 row hrow; conv => whnf)) | ((refine And.intro (rfl : (_ : Nat) = _) ?_; conv => whnf)) | refine AW.seq ?_ | refine AW.block ?_ | (refine (id : AW _ _ _ (.region 2 _ true) _ _ → _) ?_; refine AW.draw (id := 2) tab_ok mixed [0, 1, 2, 3, 4, 5, 6, 7, 8, 9, 10, 11, 12, 13, 14, 15, 16, 17, 18, 19, 20, 21, 22, 23] (by kernel_rfl) ?_; conv => whnf) | (refine (id : AW _ _ _ (.region 14 _ true) _ _ → _) ?_; refine AW.drawT (id := 14) tab_ok mixed [0, 1, 2, 3, 4, 5, 6, 7, 8, 9, 10, 12, 11, 13, 14, 15, 16, 17, 18, 19] oTPv8_19_14 (by kernel_rfl) ?_; conv => whnf) | (refine (id : AW _ _ _ (.region 25 _ true) _ _ → _) ?_; refine AW.draw (id := 25) tab_ok mixed [0, 1, 2, 3, 4, 5, 6, 7, 8, 9, 10, 11, 12, 13, 14, 15, 16] (by kernel_rfl) ?_; conv => whnf) | (refine Fork.mk ?_ ?_ <;> conv => whnf) | ((first | refine AW.region tab_ok ?_ | refine AW.cond ?_ | refine AW.skip ?_ | refine AW.ret ?_ | refine AW.exit ?_); conv => whnf) | ((first | refine (ci).mono ?_ | refine (cd).mono ?_); rintro _ _ ⟨rfl, rfl⟩; conv => whnf) | ((first | refine And.intro (@rfl Val _) ?_ | refine And.intro (by decide) ?_ | refine cs (fun _ => ?_) (fun _ => ?_)) <;> conv => whnf)
              all_goals (rw [s2 rfl]; simp only [drvF, if_true]; rw [hR]; exact ⟨rfl, rfl⟩)
            · skip
              repeat' first | ((refine And.intro f1 fun row hrow => ?_; obtain rfl := e1 row hrow; conv => whnf)) | ((refine And.intro f3 fun row hrow => ?_; obtain rfl := e3 row hrow; conv => whnf)) | ((refine And.intro ⟨rfl, hb1⟩ ?_; conv => whnf)) | ((refine And.intro ⟨rfl, hb2⟩ ?_; conv => whnf)) | ((refine And.intro (rfl : (_ : Nat) = _) ?_; conv => whnf)) | refine AW.seq ?_ | refine AW.block ?_ | (refine (id : AW _ _ _ (.region 2 _ true) _ _ → _) ?_; refine AW.draw (id := 2) tab_ok mixed [0, 1, 2, 3, 4, 5, 6, 7, 8, 9, 10, 11, 12, 13, 14, 15, 16, 17, 18, 19, 20, 21, 22, 23] (by kernel_rfl) ?_; conv => whnf) | (refine (id : AW _ _ _ (.region 14 _ true) _ _ → _) ?_; refine AW.drawT (id := 14) tab_ok mixed [0, 1, 2, 3, 4, 5, 6, 7, 8, 9, 10, 12, 11, 13, 14, 15, 16, 17, 18, 19] oTPv8_19_14 (by kernel_rfl) ?_; conv => whnf) | (refine (id : AW _ _ _ (.region 25 _ true) _ _ → _) ?_; refine AW.draw (id := 25) tab_ok mixed [0, 1, 2, 3, 4, 5, 6, 7, 8, 9, 10, 11, 12, 13, 14, 15, 16] (by kernel_rfl) ?_; conv => whnf) | (refine Fork.mk ?_ ?_ <;> conv => whnf) | ((first | refine AW.region tab_ok ?_ | refine AW.cond ?_ | refine AW.skip ?_ | refine AW.ret ?_ | refine AW.exit ?_); conv => whnf) | ((first | refine (ci).mono ?_ | refine (cd).mono ?_); rintro _ _ ⟨rfl, rfl⟩; conv => whnf) | ((first | refine And.intro (@rfl Val _) ?_ | refine And.intro (by decide) ?_ | refine cs (fun _ => ?_) (fun _ => ?_)) <;> conv => whnf)
              all_goals (rw [hTl, hPl, ← hT, ← hP, wrap64 (x := ((i : Nat) : Int) + 1) (by omega) (by omega)]; exact ⟨⟨i + 1, hlt, L ++ [.node qr (.node qk qks) qqs], by simp [hz], s1 rfl⟩, ⟨⟨rfl, rfl, rfl, rfl, rfl, rfl, rfl, rfl, rfl, trivial⟩, rfl, rfl, ⟨_, rfl⟩, rfl⟩, show ks.length - (i + 1) < ks.length - i by omega⟩)
          · rename_i g1 g2
            have g2 := of_decide_eq_false g2
            simp only at g2
            omega
          all_goals (rename_i g _; exfalso; have g := of_decide_eq_false g; rw [trows_length] at g; simp only at g; omega)
      · obtain rfl : i = ks.length := by omega
        simp only [List.drop_length, drvs, List.append_nil] at h
        have fin := derive_rest0 k hk name arg num tk tks uk uks label place ks l zs hl (by rw [hz]; exact hn) (hok zs h)
        rw [hR] at fin
        rw [h]
        repeat' first | ((refine AW.fits ?_ ?_ fin; rotate_left; rfl; refine ⟨?_, ?_, ?_, ?_, ?_⟩; rotate_left; rfl; rfl; exact ⟨[], rfl⟩; rfl; refine ⟨?_, ?_, ?_, ?_, ?_, ?_, ?_, trivial⟩ <;> rfl)) | refine AW.seq ?_ | refine AW.block ?_ | (refine (id : AW _ _ _ (.region 2 _ true) _ _ → _) ?_; refine AW.draw (id := 2) tab_ok mixed [0, 1, 2, 3, 4, 5, 6, 7, 8, 9, 10, 11, 12, 13, 14, 15, 16, 17, 18, 19, 20, 21, 22, 23] (by kernel_rfl) ?_; conv => whnf) | (refine (id : AW _ _ _ (.region 14 _ true) _ _ → _) ?_; refine AW.drawT (id := 14) tab_ok mixed [0, 1, 2, 3, 4, 5, 6, 7, 8, 9, 10, 12, 11, 13, 14, 15, 16, 17, 18, 19] oTPv8_19_14 (by kernel_rfl) ?_; conv => whnf) | (refine (id : AW _ _ _ (.region 25 _ true) _ _ → _) ?_; refine AW.draw (id := 25) tab_ok mixed [0, 1, 2, 3, 4, 5, 6, 7, 8, 9, 10, 11, 12, 13, 14, 15, 16] (by kernel_rfl) ?_; conv => whnf) | (refine Fork.mk ?_ ?_ <;> conv => whnf) | ((first | refine AW.region tab_ok ?_ | refine AW.cond ?_ | refine AW.skip ?_ | refine AW.ret ?_ | refine AW.exit ?_); conv => whnf) | (refine (c1).mono ?_; rintro _ _ ⟨rfl, rfl⟩; conv => whnf) | ((first | refine And.intro (@rfl Val _) ?_ | refine And.intro (by decide) ?_ | refine cs (fun _ => ?_) (fun _ => ?_)) <;> conv => whnf)
        all_goals first | (rename_i g _; exfalso; have g := of_decide_eq_true g; rw [trows_length] at g; simp only at g; omega) | (rename_i g; exfalso; have g := of_decide_eq_true g; rw [trows_length] at g; simp only at g; omega)
end Go.Proofs.YtlboogackecjlaaGreat.E
