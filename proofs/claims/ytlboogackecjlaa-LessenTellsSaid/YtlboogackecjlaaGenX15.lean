/- Texts, merged: Ls4, Glue, TmOpen, OpenS. No conditions. -/
import Derived.Test.YtlboogackecjlaaGenX14
import Derived.Test.YtlboogackecjlaaGenX11
import Derived.Test.YtlboogackecjlaaEngX3
import Derived.Test.YtlboogackecjlaaGenX13
import Derived.WalkKit
import Derived.ProofKit
import Derived.OpenShut
import Derived.ChangeOld
import Derived.Below
import Derived.SizedLaws
import Derived.WideKeyArgs
import Derived.Test.YtlboogackecjlaaGenX3
/- LessenTells: the law, walked. No conditions. -/
set_option linter.unusedVariables false
set_option linter.unusedSimpArgs false
namespace Go.Proofs.Ytlboogackecjlaa.E
open Go

theorem ls_pl0 (t A B : Tm) (l : List Int) : PlS ⟨121, [(1, .c (.d (.sl 0 1 (ints l)))), (2, .c (.ptr 0 0)), (8, .c (.ptr 2 0))], [.var (t.cells.map .d), .var (A.cells.map .d), .var (A.cells.map .d), .var (B.cells.map .d), .var (B.cells.map .d)], []⟩ := ⟨fun p hp => by
      rcases List.mem_cons.1 hp with rfl | hp
      · exact .c _ (.d _ (RtR.sl (ints_rt l)))
      · skip
        rcases List.mem_cons.1 hp with rfl | hp
        · exact .c _ (.ptr _ _)
        · skip
          rcases List.mem_cons.1 hp with rfl | hp
          · exact .c _ (.ptr _ _)
          · simp at hp, fun o ho => by
      rcases List.mem_cons.1 ho with rfl | ho
      · exact .var _ (pl_cells0 (tm_rt0 t))
      · skip
        rcases List.mem_cons.1 ho with rfl | ho
        · exact .var _ (pl_cells0 (tm_rt0 A))
        · skip
          rcases List.mem_cons.1 ho with rfl | ho
          · exact .var _ (pl_cells0 (tm_rt0 A))
          · skip
            rcases List.mem_cons.1 ho with rfl | ho
            · exact .var _ (pl_cells0 (tm_rt0 B))
            · skip
              rcases List.mem_cons.1 ho with rfl | ho
              · exact .var _ (pl_cells0 (tm_rt0 B))
              · simp at ho, rfl⟩
theorem ls_th0 (t A B : Tm) (l : List Int) : ThS ⟨121, [(1, .c (.d (.sl 0 1 (ints l)))), (2, .c (.ptr 0 0)), (8, .c (.ptr 2 0)), (15, .c (.ptr 5 0)), (16, .c (.ptr 6 0))], [.var (t.cells.map .d), .var (A.cells.map .d), .var (A.cells.map .d), .var (B.cells.map .d), .var (B.cells.map .d), .var ((t.cellsR 1 4).map .d), .var ((A.cellsR 2 2).map .d)], []⟩ ⟨121, [(1, .c (.d (.sl 0 1 (ints l)))), (2, .c (.ptr 0 0)), (8, .c (.ptr 2 0)), (15, .c (.ptr 5 0)), (16, .c (.ptr 6 0))], [.var (t.cells.map .d), .var (A.cells.map .d), .var (A.cells.map .d), .var (B.cells.map .d), .var (B.cells.map .d), .var (t.cellsW.map .d), .var ((A.cellsR 2 2).map .d)], []⟩ := ⟨fun p hp => by
      rcases List.mem_cons.1 hp with rfl | hp
      · exact .c (.d _ _ (.keep0 _ (RtR.sl (ints_rt l))))
      · skip
        rcases List.mem_cons.1 hp with rfl | hp
        · exact .c (.ptr _ _)
        · skip
          rcases List.mem_cons.1 hp with rfl | hp
          · exact .c (.ptr _ _)
          · skip
            rcases List.mem_cons.1 hp with rfl | hp
            · exact .c (.ptr _ _)
            · skip
              rcases List.mem_cons.1 hp with rfl | hp
              · exact .c (.ptr _ _)
              · simp at hp,
    .cons (thl_keep0 (tm_rt0 t)) (.cons (thl_keep0 (tm_rt0 A)) (.cons (thl_keep0 (tm_rt0 A)) (.cons (thl_keep0 (tm_rt0 B)) (.cons (thl_keep0 (tm_rt0 B)) (.cons (thl_of (tm_th t)) (.cons (thl_keep2 (tm_rt 2 2 2 A)) .nil)))))), rfl, rfl, rfl⟩
set_option maxRecDepth 10000 in
set_option maxHeartbeats 4000000 in
theorem law_LessenTells0 (t : Tm) (l : List Int) (hl : l.length ≤ 300) (hf : TmOk t) (hs : l = []) : ACall Try.prog 3 [t.val, .c (.d (.sl 0 1 (ints l)))] [] (fun o σ => o = .ret (.c (.d (.bool true))) ∧ σ = []) := by
  have c0 := great_call t l
  have cw := lwakes_call
  have c1 := Spots_call t
  have c2 := RSpots_call t
  have c3 := At_call t l (by omega)
  have c4 := RAt_call t l (by omega)
  have c5 := LAll_call t
  have c6 := RAllL_call t
  have hA := at_ok t l hf
  have hB := all_ok t hf
  have c7 := likeTmO_call _ hA
  have c8 := likeTmO_call _ hB
  have cs0 := Small_call t
  have d1 := copiedTm_call t hf
  have d2 := At2_of t l (by omega)
  have d5 := likeTm14_call t hf
  have d6 := spoilTm_call t hf
  have d7 := likeTm2_call _ hA
  have pl := ls_pl0 t (atT t l) (if soundE t = 0 then leT leBT t 0 else tm0) l
  have th := ls_th0 t (atT t l) (if soundE t = 0 then leT leBT t 0 else tm0) l
  generalize (if soundE t = 0 then leT leBT t 0 else tm0) = B at *
  generalize atT t l = A at *
  generalize soundE t = e1 at *
  generalize atE t l = e2 at *
  generalize SpotsS t = S at *
  clear hf hA hB
  subst hs
  obtain ⟨k, name, arg, num, tk, tks, uk, uks, label, place, ks⟩ := t
  obtain ⟨ka, namea, arga, numa, tka, tksa, uka, uksa, labela, placea, ksa⟩ := A
  obtain ⟨kb, nameb, argb, numb, tkb, tksb, ukb, uksb, labelb, placeb, ksb⟩ := B
  refine ACall.body tab_ok (ρ := 0) (N := 121) Try.func3 rfl rfl rfl rfl rfl ?_
  skip
  repeat' first | ((refine (id : AW _ _ _ (.region 6 _ false) _ _ → _) ?_; refine AW.froze 0 5 (some 1) rfl ⟨rfl, rfl⟩ ?_; refine AW.region tab_ok ?_; conv => whnf)) | ((refine c0.mono ?_; rintro _ _ ⟨b, hb, rfl, rfl⟩; cases b <;> conv => whnf)) | ((refine And.intro (rfl : (_ : Nat) = _) ?_; conv => whnf)) | refine AW.seq ?_ | refine AW.block ?_ | (refine (id : AW _ _ _ (.region 3 _ true) _ _ → _) ?_; refine AW.draw (id := 3) tab_ok mixed [0, 2, 1, 3, 4, 5, 6, 7, 8, 9] (by kernel_rfl) ?_; conv => whnf) | (refine (id : AW _ _ _ (.region 4 _ true) _ _ → _) ?_; refine AW.draw (id := 4) tab_ok mixed [0, 2, 1, 3, 4, 5, 6, 7, 8] (by kernel_rfl) ?_; conv => whnf) | (refine (id : AW _ _ _ (.region 15 _ true) _ _ → _) ?_; refine AW.draw (id := 15) tab_ok mixed [0, 1, 2, 3, 4, 5, 6, 7, 8] (by kernel_rfl) ?_; conv => whnf) | ((first | refine AW.region tab_ok ?_ | refine AW.cond ?_ | refine AW.skip ?_ | refine AW.ret ?_ | refine AW.exit ?_); conv => whnf) | ((first | refine (cw).mono ?_ | refine (c1).mono ?_ | refine (c2).mono ?_ | refine (c3).mono ?_ | refine (c4).mono ?_ | refine (c5).mono ?_ | refine (c6).mono ?_ | refine (c7).mono ?_ | refine (c8).mono ?_); rintro _ _ ⟨rfl, rfl⟩; conv => whnf) | ((first | refine And.intro (@rfl Val _) ?_ | refine And.intro (by decide) ?_ | refine cs (fun _ => ?_) (fun _ => ?_)) <;> conv => whnf)
  all_goals first
    | exact ⟨rfl, rfl⟩
    | (exfalso; clear pl th; simp_all; done)
    | (refine AW.loop (ι := UpToN ([] : List Int).length) (fun x => ⟨121, [(14, .c (.d (.int .i64 x.i))), (1, .c (.d (.sl 0 1 (ints [])))), (2, .c (.ptr 0 0)), (5, .c (.d (.sl 0 1 (ints [])))), (8, .c (.ptr 2 0))], [.var ((Tm.node k name arg num tk tks uk uks label place ks).cells.map .d), .var ((Tm.node ka namea arga numa tka tksa uka uksa labela placea ksa).cells.map .d), .var ((Tm.node ka namea arga numa tka tksa uka uksa labela placea ksa).cells.map .d), .var ((Tm.node kb nameb argb numb tkb tksb ukb uksb labelb placeb ksb).cells.map .d), .var ((Tm.node kb nameb argb numb tkb tksb ukb uksb labelb placeb ksb).cells.map .d)], []⟩)
        (fun x => ([] : List Int).length - x.i) ⟨0, Nat.zero_le _⟩ 5 (fun _ => rfl) (Nat.le_of_ble_eq_true rfl) ⟨⟨rfl, rfl, rfl, rfl, rfl, trivial⟩, rfl, rfl, ⟨[], rfl⟩, rfl⟩ (fun x => ?_))
   
  obtain ⟨i, hi⟩ := x
  repeat' first | refine AW.seq ?_ | refine AW.block ?_ | (refine (id : AW _ _ _ (.region 3 _ true) _ _ → _) ?_; refine AW.draw (id := 3) tab_ok mixed [0, 2, 1, 3, 4, 5, 6, 7, 8, 9] (by kernel_rfl) ?_; conv => whnf) | (refine (id : AW _ _ _ (.region 4 _ true) _ _ → _) ?_; refine AW.draw (id := 4) tab_ok mixed [0, 2, 1, 3, 4, 5, 6, 7, 8] (by kernel_rfl) ?_; conv => whnf) | (refine (id : AW _ _ _ (.region 15 _ true) _ _ → _) ?_; refine AW.draw (id := 15) tab_ok mixed [0, 1, 2, 3, 4, 5, 6, 7, 8] (by kernel_rfl) ?_; conv => whnf) | ((first | refine AW.region tab_ok ?_ | refine AW.cond ?_ | refine AW.skip ?_ | refine AW.ret ?_ | refine AW.exit ?_); conv => whnf) | (refine (cw).mono ?_; rintro _ _ ⟨rfl, rfl⟩; conv => whnf) | ((first | refine And.intro (@rfl Val _) ?_ | refine And.intro (by decide) ?_ | refine cs (fun _ => ?_) (fun _ => ?_)) <;> conv => whnf)
  · clear c0 c1 c2
    repeat' first | ((refine FitsX.mk ⟨?_, rfl, rfl, ⟨[], rfl⟩, rfl⟩ rfl; repeat' (first | exact rfl | exact trivial | refine ⟨rfl, ?_⟩))) | ((refine (id : AW _ _ _ (.seq (.region 18 _ false) _) _ _ → _) ?_; refine AW.fits (I := ⟨121, [(1, .c (.d (.sl 0 1 (ints [])))), (2, .c (.ptr 0 0)), (8, .c (.ptr 2 0))], [.var ((Tm.node k name arg num tk tks uk uks label place ks).cells.map .d), .var ((Tm.node ka namea arga numa tka tksa uka uksa labela placea ksa).cells.map .d), .var ((Tm.node ka namea arga numa tka tksa uka uksa labela placea ksa).cells.map .d), .var ((Tm.node kb nameb argb numb tkb tksb ukb uksb labelb placeb ksb).cells.map .d), .var ((Tm.node kb nameb argb numb tkb tksb ukb uksb labelb placeb ksb).cells.map .d)], []⟩) ⟨⟨rfl, rfl, rfl, trivial⟩, rfl, rfl, ⟨[], rfl⟩, rfl⟩ rfl ?_; refine AW.hide pl (fun w0 C0 hI0 => AWx.step (S1 := ⟨121, [(1, .c (.d (.sl 0 1 (ints [])))), (2, .c (.ptr 0 0)), (8, .c (.ptr 2 0)), (15, .c (.ptr 5 0))], [.var ((Tm.node k name arg num tk tks uk uks label place ks).cells.map .d), .var ((Tm.node ka namea arga numa tka tksa uka uksa labela placea ksa).cells.map .d), .var ((Tm.node ka namea arga numa tka tksa uka uksa labela placea ksa).cells.map .d), .var ((Tm.node kb nameb argb numb tkb tksb ukb uksb labelb placeb ksb).cells.map .d), .var ((Tm.node kb nameb argb numb tkb tksb ukb uksb labelb placeb ksb).cells.map .d), .var (((Tm.node k name arg num tk tks uk uks label place ks).cellsR 1 4).map .d)], []⟩) rfl ?_ (AWx.step (S1 := ⟨121, [(1, .c (.d (.sl 0 1 (ints [])))), (2, .c (.ptr 0 0)), (8, .c (.ptr 2 0)), (15, .c (.ptr 5 0)), (16, .c (.ptr 6 0))], [.var ((Tm.node k name arg num tk tks uk uks label place ks).cells.map .d), .var ((Tm.node ka namea arga numa tka tksa uka uksa labela placea ksa).cells.map .d), .var ((Tm.node ka namea arga numa tka tksa uka uksa labela placea ksa).cells.map .d), .var ((Tm.node kb nameb argb numb tkb tksb ukb uksb labelb placeb ksb).cells.map .d), .var ((Tm.node kb nameb argb numb tkb tksb ukb uksb labelb placeb ksb).cells.map .d), .var (((Tm.node k name arg num tk tks uk uks label place ks).cellsR 1 4).map .d), .var (((Tm.node ka namea arga numa tka tksa uka uksa labela placea ksa).cellsR 2 2).map .d)], []⟩) rfl ?_ (AWx.step (S1 := ⟨121, [(1, .c (.d (.sl 0 1 (ints [])))), (2, .c (.ptr 0 0)), (8, .c (.ptr 2 0)), (15, .c (.ptr 5 0)), (16, .c (.ptr 6 0))], [.var ((Tm.node k name arg num tk tks uk uks label place ks).cells.map .d), .var ((Tm.node ka namea arga numa tka tksa uka uksa labela placea ksa).cells.map .d), .var ((Tm.node ka namea arga numa tka tksa uka uksa labela placea ksa).cells.map .d), .var ((Tm.node kb nameb argb numb tkb tksb ukb uksb labelb placeb ksb).cells.map .d), .var ((Tm.node kb nameb argb numb tkb tksb ukb uksb labelb placeb ksb).cells.map .d), .var (((Tm.node k name arg num tk tks uk uks label place ks).cellsR 1 4).map .d), .var (((Tm.node ka namea arga numa tka tksa uka uksa labela placea ksa).cellsR 2 2).map .d)], []⟩) rfl ?_ (AWx.thaw (S' := ⟨121, [(1, .c (.d (.sl 0 1 (ints [])))), (2, .c (.ptr 0 0)), (8, .c (.ptr 2 0)), (15, .c (.ptr 5 0)), (16, .c (.ptr 6 0))], [.var ((Tm.node k name arg num tk tks uk uks label place ks).cells.map .d), .var ((Tm.node ka namea arga numa tka tksa uka uksa labela placea ksa).cells.map .d), .var ((Tm.node ka namea arga numa tka tksa uka uksa labela placea ksa).cells.map .d), .var ((Tm.node kb nameb argb numb tkb tksb ukb uksb labelb placeb ksb).cells.map .d), .var ((Tm.node kb nameb argb numb tkb tksb ukb uksb labelb placeb ksb).cells.map .d), .var ((Tm.node k name arg num tk tks uk uks label place ks).cellsW.map .d), .var (((Tm.node ka namea arga numa tka tksa uka uksa labela placea ksa).cellsR 2 2).map .d)], []⟩) hI0 th ?_)))))) | ((refine cs0.mono ?_; rintro _ _ ⟨b, rfl, rfl⟩; cases b <;> conv => whnf)) | refine AW.seq ?_ | refine AW.block ?_ | (refine (id : AW _ _ _ (.region 3 _ true) _ _ → _) ?_; refine AW.draw (id := 3) tab_ok mixed [0, 2, 1, 3, 4, 5, 6, 7, 8, 9] (by kernel_rfl) ?_; conv => whnf) | (refine (id : AW _ _ _ (.region 4 _ true) _ _ → _) ?_; refine AW.draw (id := 4) tab_ok mixed [0, 2, 1, 3, 4, 5, 6, 7, 8] (by kernel_rfl) ?_; conv => whnf) | (refine (id : AW _ _ _ (.region 15 _ true) _ _ → _) ?_; refine AW.draw (id := 15) tab_ok mixed [0, 1, 2, 3, 4, 5, 6, 7, 8] (by kernel_rfl) ?_; conv => whnf) | ((first | refine AW.region tab_ok ?_ | refine AW.cond ?_ | refine AW.skip ?_ | refine AW.ret ?_ | refine AW.exit ?_); conv => whnf) | ((first | refine (d1).mono ?_ | refine (d2).mono ?_ | refine (d5).mono ?_ | refine (d6).mono ?_ | refine (d7).mono ?_ | refine (cw).mono ?_); rintro _ _ ⟨rfl, rfl⟩; conv => whnf) | ((first | refine And.intro (@rfl Val _) ?_ | refine And.intro (by decide) ?_ | refine cs (fun _ => ?_) (fun _ => ?_)) <;> conv => whnf)
    all_goals first | exact ⟨rfl, rfl⟩ | exact trivial | (exfalso; simp_all; done)
theorem ls_pl1 (t A B : Tm) (l : List Int) : PlS ⟨121, [(1, .c (.d (.sl 0 1 (ints l)))), (2, .c (.ptr 0 0)), (8, .c (.ptr 3 0))], [.var (t.cells.map .d), .gone, .var (A.cells.map .d), .var (A.cells.map .d), .var (B.cells.map .d), .var (B.cells.map .d)], []⟩ := ⟨fun p hp => by
      rcases List.mem_cons.1 hp with rfl | hp
      · exact .c _ (.d _ (RtR.sl (ints_rt l)))
      · skip
        rcases List.mem_cons.1 hp with rfl | hp
        · exact .c _ (.ptr _ _)
        · skip
          rcases List.mem_cons.1 hp with rfl | hp
          · exact .c _ (.ptr _ _)
          · simp at hp, fun o ho => by
      rcases List.mem_cons.1 ho with rfl | ho
      · exact .var _ (pl_cells0 (tm_rt0 t))
      · skip
        rcases List.mem_cons.1 ho with rfl | ho
        · exact .gone
        · skip
          rcases List.mem_cons.1 ho with rfl | ho
          · exact .var _ (pl_cells0 (tm_rt0 A))
          · skip
            rcases List.mem_cons.1 ho with rfl | ho
            · exact .var _ (pl_cells0 (tm_rt0 A))
            · skip
              rcases List.mem_cons.1 ho with rfl | ho
              · exact .var _ (pl_cells0 (tm_rt0 B))
              · skip
                rcases List.mem_cons.1 ho with rfl | ho
                · exact .var _ (pl_cells0 (tm_rt0 B))
                · simp at ho, rfl⟩
theorem ls_th1 (t A B : Tm) (l : List Int) : ThS ⟨121, [(1, .c (.d (.sl 0 1 (ints l)))), (2, .c (.ptr 0 0)), (8, .c (.ptr 3 0)), (15, .c (.ptr 6 0)), (16, .c (.ptr 7 0))], [.var (t.cells.map .d), .gone, .var (A.cells.map .d), .var (A.cells.map .d), .var (B.cells.map .d), .var (B.cells.map .d), .var ((t.cellsR 1 4).map .d), .var ((A.cellsR 2 2).map .d)], []⟩ ⟨121, [(1, .c (.d (.sl 0 1 (ints l)))), (2, .c (.ptr 0 0)), (8, .c (.ptr 3 0)), (15, .c (.ptr 6 0)), (16, .c (.ptr 7 0))], [.var (t.cells.map .d), .gone, .var (A.cells.map .d), .var (A.cells.map .d), .var (B.cells.map .d), .var (B.cells.map .d), .var (t.cellsW.map .d), .var ((A.cellsR 2 2).map .d)], []⟩ := ⟨fun p hp => by
      rcases List.mem_cons.1 hp with rfl | hp
      · exact .c (.d _ _ (.keep0 _ (RtR.sl (ints_rt l))))
      · skip
        rcases List.mem_cons.1 hp with rfl | hp
        · exact .c (.ptr _ _)
        · skip
          rcases List.mem_cons.1 hp with rfl | hp
          · exact .c (.ptr _ _)
          · skip
            rcases List.mem_cons.1 hp with rfl | hp
            · exact .c (.ptr _ _)
            · skip
              rcases List.mem_cons.1 hp with rfl | hp
              · exact .c (.ptr _ _)
              · simp at hp,
    .cons (thl_keep0 (tm_rt0 t)) (.gone (.cons (thl_keep0 (tm_rt0 A)) (.cons (thl_keep0 (tm_rt0 A)) (.cons (thl_keep0 (tm_rt0 B)) (.cons (thl_keep0 (tm_rt0 B)) (.cons (thl_of (tm_th t)) (.cons (thl_keep2 (tm_rt 2 2 2 A)) .nil))))))), rfl, rfl, rfl⟩
set_option maxRecDepth 10000 in
set_option maxHeartbeats 4000000 in
theorem law_LessenTells1 (t : Tm) (l : List Int) (hl : l.length ≤ 300) (hf : TmOk t) (hs : ∃ s r, l = s :: r) : ACall Try.prog 3 [t.val, .c (.d (.sl 0 1 (ints l)))] [] (fun o σ => o = .ret (.c (.d (.bool true))) ∧ σ = []) := by
  have c0 := great_call t l
  have cw := lwakes_call
  have c1 := Spots_call t
  have c2 := RSpots_call t
  have c3 := At_call t l (by omega)
  have c4 := RAt_call t l (by omega)
  have c5 := LAll_call t
  have c6 := RAllL_call t
  have hA := at_ok t l hf
  have hB := all_ok t hf
  have c7 := likeTmO_call _ hA
  have c8 := likeTmO_call _ hB
  have cs0 := Small_call t
  have d1 := copiedTm_call t hf
  have d2 := At2_of t l (by omega)
  have d5 := likeTm14_call t hf
  have d6 := spoilTm_call t hf
  have d7 := likeTm2_call _ hA
  have pl := ls_pl1 t (atT t l) (if soundE t = 0 then leT leBT t 0 else tm0) l
  have th := ls_th1 t (atT t l) (if soundE t = 0 then leT leBT t 0 else tm0) l
  generalize (if soundE t = 0 then leT leBT t 0 else tm0) = B at *
  generalize atT t l = A at *
  generalize soundE t = e1 at *
  generalize atE t l = e2 at *
  generalize SpotsS t = S at *
  clear hf hA hB
  obtain ⟨s, r, rfl⟩ := hs
  have hbn : bnd (ints (s :: r)).length 8 := by
    have e : (ints (s :: r)).length = (s :: r).length := ints_len _
    unfold bnd
    rw [e]
    constructor <;> omega
  obtain ⟨k, name, arg, num, tk, tks, uk, uks, label, place, ks⟩ := t
  obtain ⟨ka, namea, arga, numa, tka, tksa, uka, uksa, labela, placea, ksa⟩ := A
  obtain ⟨kb, nameb, argb, numb, tkb, tksb, ukb, uksb, labelb, placeb, ksb⟩ := B
  refine ACall.body tab_ok (ρ := 0) (N := 121) Try.func3 rfl rfl rfl rfl rfl ?_
  skip
  repeat' first | ((refine (id : AW _ _ _ (.region 6 _ false) _ _ → _) ?_; refine AW.froze 0 5 none rfl ⟨rfl, rfl, rfl⟩ ?_; refine AW.region tab_ok ?_; conv => whnf)) | ((refine c0.mono ?_; rintro _ _ ⟨b, hb, rfl, rfl⟩; cases b <;> conv => whnf)) | ((refine And.intro hbn ?_; conv => whnf)) | ((refine And.intro (rfl : (_ : Nat) = _) ?_; conv => whnf)) | refine AW.seq ?_ | refine AW.block ?_ | (refine (id : AW _ _ _ (.region 3 _ true) _ _ → _) ?_; refine AW.draw (id := 3) tab_ok mixed [0, 2, 1, 3, 4, 5, 6, 7, 8, 9] (by kernel_rfl) ?_; conv => whnf) | (refine (id : AW _ _ _ (.region 4 _ true) _ _ → _) ?_; refine AW.draw (id := 4) tab_ok mixed [0, 2, 1, 3, 4, 5, 6, 7, 8] (by kernel_rfl) ?_; conv => whnf) | (refine (id : AW _ _ _ (.region 15 _ true) _ _ → _) ?_; refine AW.draw (id := 15) tab_ok mixed [0, 1, 2, 3, 4, 5, 6, 7, 8] (by kernel_rfl) ?_; conv => whnf) | ((first | refine AW.region tab_ok ?_ | refine AW.cond ?_ | refine AW.skip ?_ | refine AW.ret ?_ | refine AW.exit ?_); conv => whnf) | ((first | refine (cw).mono ?_ | refine (c1).mono ?_ | refine (c2).mono ?_ | refine (c3).mono ?_ | refine (c4).mono ?_ | refine (c5).mono ?_ | refine (c6).mono ?_ | refine (c7).mono ?_ | refine (c8).mono ?_); rintro _ _ ⟨rfl, rfl⟩; conv => whnf) | ((first | refine And.intro (@rfl Val _) ?_ | refine And.intro (by decide) ?_ | refine cs (fun _ => ?_) (fun _ => ?_)) <;> conv => whnf)
  all_goals first
    | exact ⟨rfl, rfl⟩
    | (exfalso; clear pl th; simp_all; done)
    | (refine AW.loop (ι := UpToN ((s :: r) : List Int).length) (fun x => ⟨121, [(14, .c (.d (.int .i64 x.i))), (1, .c (.d (.sl 0 1 (ints (s :: r))))), (2, .c (.ptr 0 0)), (5, .c (.d (.sl 0 1 (ints (s :: r))))), (8, .c (.ptr 3 0))], [.var ((Tm.node k name arg num tk tks uk uks label place ks).cells.map .d), .gone, .var ((Tm.node ka namea arga numa tka tksa uka uksa labela placea ksa).cells.map .d), .var ((Tm.node ka namea arga numa tka tksa uka uksa labela placea ksa).cells.map .d), .var ((Tm.node kb nameb argb numb tkb tksb ukb uksb labelb placeb ksb).cells.map .d), .var ((Tm.node kb nameb argb numb tkb tksb ukb uksb labelb placeb ksb).cells.map .d)], []⟩)
        (fun x => ((s :: r) : List Int).length - x.i) ⟨0, Nat.zero_le _⟩ 6 (fun _ => rfl) (Nat.le_of_ble_eq_true rfl) ⟨⟨rfl, rfl, rfl, rfl, rfl, trivial⟩, rfl, rfl, ⟨[], rfl⟩, rfl⟩ (fun x => ?_))
   
  obtain ⟨i, hi⟩ := x
  repeat' first | refine AW.seq ?_ | refine AW.block ?_ | (refine (id : AW _ _ _ (.region 3 _ true) _ _ → _) ?_; refine AW.draw (id := 3) tab_ok mixed [0, 2, 1, 3, 4, 5, 6, 7, 8, 9] (by kernel_rfl) ?_; conv => whnf) | (refine (id : AW _ _ _ (.region 4 _ true) _ _ → _) ?_; refine AW.draw (id := 4) tab_ok mixed [0, 2, 1, 3, 4, 5, 6, 7, 8] (by kernel_rfl) ?_; conv => whnf) | (refine (id : AW _ _ _ (.region 15 _ true) _ _ → _) ?_; refine AW.draw (id := 15) tab_ok mixed [0, 1, 2, 3, 4, 5, 6, 7, 8] (by kernel_rfl) ?_; conv => whnf) | ((first | refine AW.region tab_ok ?_ | refine AW.cond ?_ | refine AW.skip ?_ | refine AW.ret ?_ | refine AW.exit ?_); conv => whnf) | (refine (cw).mono ?_; rintro _ _ ⟨rfl, rfl⟩; conv => whnf) | ((first | refine And.intro (@rfl Val _) ?_ | refine And.intro (by decide) ?_ | refine cs (fun _ => ?_) (fun _ => ?_)) <;> conv => whnf)
  · rename_i h1
    have h1 : (i : Int) < ((ints (s :: r)).length : Nat) := of_decide_eq_true h1
    rw [ints_len] at h1
    have hlt : i < ((s :: r) : List Int).length := by omega
    obtain ⟨q, ht⟩ : ∃ q, ((s :: r) : List Int)[i]? = some q := ⟨_, List.getElem?_eq_getElem hlt⟩
    have f1 : (0 : Int) ≤ (i : Int) ∧ (i : Int) < ((ints (s :: r)).length : Nat) := by rw [ints_len]; omega
    have er : ∀ row, (ints (s :: r))[(i : Int).toNat]? = some row → [DV.int .i64 q] = row := fun row h => by
      obtain ⟨y, hy, rfl⟩ := ints_get h
      simp only [Int.toNat_natCast] at hy
      rw [ht] at hy; cases hy; rfl
    clear c0 cw c1 c2 c3 c4 c5 c6 c7 c8 cs0 d1 d2 d5 d6 d7 pl th
    repeat' first | ((refine ⟨f1, fun row hrow => ?_⟩; obtain rfl := er row hrow; conv => whnf)) | refine AW.seq ?_ | refine AW.block ?_ | (refine (id : AW _ _ _ (.region 3 _ true) _ _ → _) ?_; refine AW.draw (id := 3) tab_ok mixed [0, 2, 1, 3, 4, 5, 6, 7, 8, 9] (by kernel_rfl) ?_; conv => whnf) | (refine (id : AW _ _ _ (.region 4 _ true) _ _ → _) ?_; refine AW.draw (id := 4) tab_ok mixed [0, 2, 1, 3, 4, 5, 6, 7, 8] (by kernel_rfl) ?_; conv => whnf) | (refine (id : AW _ _ _ (.region 15 _ true) _ _ → _) ?_; refine AW.draw (id := 15) tab_ok mixed [0, 1, 2, 3, 4, 5, 6, 7, 8] (by kernel_rfl) ?_; conv => whnf) | ((first | refine AW.region tab_ok ?_ | refine AW.cond ?_ | refine AW.skip ?_ | refine AW.ret ?_ | refine AW.exit ?_); conv => whnf) | ((first | refine And.intro (@rfl Val _) ?_ | refine And.intro (by decide) ?_ | refine cs (fun _ => ?_) (fun _ => ?_)) <;> conv => whnf)
    all_goals first
      | (exfalso; simp_all; done)
      | (rw [wrap64 (x := (i : Int) + 1) (by omega) (by omega)]; exact ⟨⟨i + 1, hlt⟩, ⟨⟨rfl, rfl, rfl, rfl, rfl, trivial⟩, rfl, rfl, ⟨[], rfl⟩, rfl⟩, show ((s :: r) : List Int).length - (i + 1) < ((s :: r) : List Int).length - i by omega⟩)
     
  · rename_i h1
    clear h1 c0 c1 c2
    repeat' first | ((refine FitsX.mk ⟨?_, rfl, rfl, ⟨[], rfl⟩, rfl⟩ rfl; repeat' (first | exact rfl | exact trivial | refine ⟨rfl, ?_⟩))) | ((refine (id : AW _ _ _ (.seq (.region 18 _ false) _) _ _ → _) ?_; refine AW.fits (I := ⟨121, [(1, .c (.d (.sl 0 1 (ints (s :: r))))), (2, .c (.ptr 0 0)), (8, .c (.ptr 3 0))], [.var ((Tm.node k name arg num tk tks uk uks label place ks).cells.map .d), .gone, .var ((Tm.node ka namea arga numa tka tksa uka uksa labela placea ksa).cells.map .d), .var ((Tm.node ka namea arga numa tka tksa uka uksa labela placea ksa).cells.map .d), .var ((Tm.node kb nameb argb numb tkb tksb ukb uksb labelb placeb ksb).cells.map .d), .var ((Tm.node kb nameb argb numb tkb tksb ukb uksb labelb placeb ksb).cells.map .d)], []⟩) ⟨⟨rfl, rfl, rfl, trivial⟩, rfl, rfl, ⟨[], rfl⟩, rfl⟩ rfl ?_; refine AW.hide pl (fun w0 C0 hI0 => AWx.step (S1 := ⟨121, [(1, .c (.d (.sl 0 1 (ints (s :: r))))), (2, .c (.ptr 0 0)), (8, .c (.ptr 3 0)), (15, .c (.ptr 6 0))], [.var ((Tm.node k name arg num tk tks uk uks label place ks).cells.map .d), .gone, .var ((Tm.node ka namea arga numa tka tksa uka uksa labela placea ksa).cells.map .d), .var ((Tm.node ka namea arga numa tka tksa uka uksa labela placea ksa).cells.map .d), .var ((Tm.node kb nameb argb numb tkb tksb ukb uksb labelb placeb ksb).cells.map .d), .var ((Tm.node kb nameb argb numb tkb tksb ukb uksb labelb placeb ksb).cells.map .d), .var (((Tm.node k name arg num tk tks uk uks label place ks).cellsR 1 4).map .d)], []⟩) rfl ?_ (AWx.step (S1 := ⟨121, [(1, .c (.d (.sl 0 1 (ints (s :: r))))), (2, .c (.ptr 0 0)), (8, .c (.ptr 3 0)), (15, .c (.ptr 6 0)), (16, .c (.ptr 7 0))], [.var ((Tm.node k name arg num tk tks uk uks label place ks).cells.map .d), .gone, .var ((Tm.node ka namea arga numa tka tksa uka uksa labela placea ksa).cells.map .d), .var ((Tm.node ka namea arga numa tka tksa uka uksa labela placea ksa).cells.map .d), .var ((Tm.node kb nameb argb numb tkb tksb ukb uksb labelb placeb ksb).cells.map .d), .var ((Tm.node kb nameb argb numb tkb tksb ukb uksb labelb placeb ksb).cells.map .d), .var (((Tm.node k name arg num tk tks uk uks label place ks).cellsR 1 4).map .d), .var (((Tm.node ka namea arga numa tka tksa uka uksa labela placea ksa).cellsR 2 2).map .d)], []⟩) rfl ?_ (AWx.step (S1 := ⟨121, [(1, .c (.d (.sl 0 1 (ints (s :: r))))), (2, .c (.ptr 0 0)), (8, .c (.ptr 3 0)), (15, .c (.ptr 6 0)), (16, .c (.ptr 7 0))], [.var ((Tm.node k name arg num tk tks uk uks label place ks).cells.map .d), .gone, .var ((Tm.node ka namea arga numa tka tksa uka uksa labela placea ksa).cells.map .d), .var ((Tm.node ka namea arga numa tka tksa uka uksa labela placea ksa).cells.map .d), .var ((Tm.node kb nameb argb numb tkb tksb ukb uksb labelb placeb ksb).cells.map .d), .var ((Tm.node kb nameb argb numb tkb tksb ukb uksb labelb placeb ksb).cells.map .d), .var (((Tm.node k name arg num tk tks uk uks label place ks).cellsR 1 4).map .d), .var (((Tm.node ka namea arga numa tka tksa uka uksa labela placea ksa).cellsR 2 2).map .d)], []⟩) rfl ?_ (AWx.thaw (S' := ⟨121, [(1, .c (.d (.sl 0 1 (ints (s :: r))))), (2, .c (.ptr 0 0)), (8, .c (.ptr 3 0)), (15, .c (.ptr 6 0)), (16, .c (.ptr 7 0))], [.var ((Tm.node k name arg num tk tks uk uks label place ks).cells.map .d), .gone, .var ((Tm.node ka namea arga numa tka tksa uka uksa labela placea ksa).cells.map .d), .var ((Tm.node ka namea arga numa tka tksa uka uksa labela placea ksa).cells.map .d), .var ((Tm.node kb nameb argb numb tkb tksb ukb uksb labelb placeb ksb).cells.map .d), .var ((Tm.node kb nameb argb numb tkb tksb ukb uksb labelb placeb ksb).cells.map .d), .var ((Tm.node k name arg num tk tks uk uks label place ks).cellsW.map .d), .var (((Tm.node ka namea arga numa tka tksa uka uksa labela placea ksa).cellsR 2 2).map .d)], []⟩) hI0 th ?_)))))) | ((refine cs0.mono ?_; rintro _ _ ⟨b, rfl, rfl⟩; cases b <;> conv => whnf)) | refine AW.seq ?_ | refine AW.block ?_ | (refine (id : AW _ _ _ (.region 3 _ true) _ _ → _) ?_; refine AW.draw (id := 3) tab_ok mixed [0, 2, 1, 3, 4, 5, 6, 7, 8, 9] (by kernel_rfl) ?_; conv => whnf) | (refine (id : AW _ _ _ (.region 4 _ true) _ _ → _) ?_; refine AW.draw (id := 4) tab_ok mixed [0, 2, 1, 3, 4, 5, 6, 7, 8] (by kernel_rfl) ?_; conv => whnf) | (refine (id : AW _ _ _ (.region 15 _ true) _ _ → _) ?_; refine AW.draw (id := 15) tab_ok mixed [0, 1, 2, 3, 4, 5, 6, 7, 8] (by kernel_rfl) ?_; conv => whnf) | ((first | refine AW.region tab_ok ?_ | refine AW.cond ?_ | refine AW.skip ?_ | refine AW.ret ?_ | refine AW.exit ?_); conv => whnf) | ((first | refine (d1).mono ?_ | refine (d2).mono ?_ | refine (d5).mono ?_ | refine (d6).mono ?_ | refine (d7).mono ?_ | refine (cw).mono ?_); rintro _ _ ⟨rfl, rfl⟩; conv => whnf) | ((first | refine And.intro (@rfl Val _) ?_ | refine And.intro (by decide) ?_ | refine cs (fun _ => ?_) (fun _ => ?_)) <;> conv => whnf)
    all_goals first | exact ⟨rfl, rfl⟩ | exact trivial | (exfalso; simp_all; done)
set_option maxRecDepth 10000 in
theorem law_LessenTells (t : Tm) (l : List Int) (hf : TmOk t) : ACall Try.prog 3 [t.val, .c (.d (.sl 0 1 (ints l)))] [] (fun o σ => o = .ret (.c (.d (.bool true))) ∧ σ = []) := by
  by_cases hl : l.length ≤ 300
  · cases l with
    | nil => exact law_LessenTells0 t [] hl hf rfl
    | cons s r => exact law_LessenTells1 t (s :: r) hl hf ⟨s, r, rfl⟩
  · have c0 := great_call t l
    have cw := lwakes_call
    obtain ⟨k, name, arg, num, tk, tks, uk, uks, label, place, ks⟩ := t
    refine ACall.body tab_ok (ρ := 0) (N := 121) Try.func3 rfl rfl rfl rfl rfl ?_
    skip
    repeat' first | ((refine c0.mono ?_; rintro _ _ ⟨b, hb, rfl, rfl⟩; cases b; exact absurd (hb rfl) hl; conv => whnf)) | refine AW.seq ?_ | refine AW.block ?_ | (refine (id : AW _ _ _ (.region 3 _ true) _ _ → _) ?_; refine AW.draw (id := 3) tab_ok mixed [0, 2, 1, 3, 4, 5, 6, 7, 8, 9] (by kernel_rfl) ?_; conv => whnf) | (refine (id : AW _ _ _ (.region 4 _ true) _ _ → _) ?_; refine AW.draw (id := 4) tab_ok mixed [0, 2, 1, 3, 4, 5, 6, 7, 8] (by kernel_rfl) ?_; conv => whnf) | (refine (id : AW _ _ _ (.region 15 _ true) _ _ → _) ?_; refine AW.draw (id := 15) tab_ok mixed [0, 1, 2, 3, 4, 5, 6, 7, 8] (by kernel_rfl) ?_; conv => whnf) | ((first | refine AW.region tab_ok ?_ | refine AW.cond ?_ | refine AW.skip ?_ | refine AW.ret ?_ | refine AW.exit ?_); conv => whnf) | (refine (cw).mono ?_; rintro _ _ ⟨rfl, rfl⟩; conv => whnf) | ((first | refine And.intro (@rfl Val _) ?_ | refine And.intro (by decide) ?_ | refine cs (fun _ => ?_) (fun _ => ?_)) <;> conv => whnf)
    all_goals first | exact ⟨rfl, rfl⟩
end Go.Proofs.Ytlboogackecjlaa.E

/- From a law's walk to its row: parts for all rows. No conditions. -/
namespace Go.Proofs.Ytlboogackecjlaa.E
open Go Go.RowKit

theorem rep2 {w : World} {C : Cz} {u v : Value} {x y : Val} (h : RepV w C u x) (g : RepV w C v y) : RepVs w C #[u, v].toList [x, y] := .cons h (.cons g ⟨rfl, fun i v x h => by simp at h⟩)
/-- A law that is true: as a call. -/
theorem law_true {P : Program} {f : FuncId} {args : List Val} (h : ACall P f args [] (fun o σ => o = .ret (.c (.d (.bool true))) ∧ σ = [])) {w : World} {vs : Array Value} (hv : RepVs w (czAll w) vs.toList args) :
    Calls P f vs w fun e w' => e = .returned (.bool true) ∧ Below w.heap.size w w' :=
  (h.out w (czAll w) vs (inv_all w) hv).mono fun e w' ⟨o, σ', C', ⟨ho, hs⟩, hI, hX, hO⟩ => by
    subst ho; subst hs
    obtain ⟨v, rfl, hr⟩ := hO
    have := bool_of hr
    subst this
    exact ⟨rfl, hX.os, hX.tape, hX.output, hX.size, fun k hk => hX.frame k hk (fun ⟨i, o, e, h, _⟩ => by simp at h) (fun r hr => by simp only [czAll, rgAll] at hr; rw [if_pos hk] at hr; cases hr; rfl)⟩
end Go.Proofs.Ytlboogackecjlaa.E

/- From a row's reading of a term to a tree. No conditions. -/
set_option linter.unusedVariables false
set_option linter.unusedSimpArgs false
namespace Go.Proofs.Ytlboogackecjlaa.E
open Go Go.RowKit

theorem u39 : Try.prog.underlying 28 = some (.struct #[fld 28 0, fld 28 1, fld 28 2, fld 28 3, fld 28 4, fld 28 5, fld 28 6, fld 28 7, fld 28 8]) := by kernel_rfl
theorem f39_0 : (fld 28 0).type = 22 ∧ (fld 28 0).offset = 0 := ⟨by kernel_rfl, by kernel_rfl⟩
theorem f39_1 : (fld 28 1).type = 9 ∧ (fld 28 1).offset = 1 := ⟨by kernel_rfl, by kernel_rfl⟩
theorem f39_2 : (fld 28 2).type = 9 ∧ (fld 28 2).offset = 2 := ⟨by kernel_rfl, by kernel_rfl⟩
theorem f39_3 : (fld 28 3).type = 2 ∧ (fld 28 3).offset = 3 := ⟨by kernel_rfl, by kernel_rfl⟩
theorem f39_4 : (fld 28 4).type = 25 ∧ (fld 28 4).offset = 4 := ⟨by kernel_rfl, by kernel_rfl⟩
theorem f39_5 : (fld 28 5).type = 25 ∧ (fld 28 5).offset = 6 := ⟨by kernel_rfl, by kernel_rfl⟩
theorem f39_6 : (fld 28 6).type = 3 ∧ (fld 28 6).offset = 8 := ⟨by kernel_rfl, by kernel_rfl⟩
theorem f39_7 : (fld 28 7).type = 3 ∧ (fld 28 7).offset = 9 := ⟨by kernel_rfl, by kernel_rfl⟩
theorem f39_8 : (fld 28 8).type = 26 ∧ (fld 28 8).offset = 10 := ⟨by kernel_rfl, by kernel_rfl⟩
theorem u37 : Try.prog.underlying 26 = some (.slice 28) := by kernel_rfl
theorem u9 : Try.prog.underlying 9 = some .string := by kernel_rfl
theorem u2 : Try.prog.underlying 2 = some (.int .i64) := by kernel_rfl
theorem u3 : Try.prog.underlying 3 = some (.int .i64) := by kernel_rfl
theorem c39 : Try.prog.cellsOf 28 = 11 := by kernel_rfl
theorem c37 : Try.prog.cellsOf 26 = 1 := by kernel_rfl
theorem c9 : Try.prog.cellsOf 9 = 1 := by kernel_rfl
theorem c2 : Try.prog.cellsOf 2 = 1 := by kernel_rfl
theorem c3 : Try.prog.cellsOf 3 = 1 := by kernel_rfl
theorem tcells_len (t : Tm) : t.cells.length = 11 := by cases t; rfl
theorem tm_val {w : World} {v : Value} {t : Tm} (h : Stand w v.cells.toList t.cells) : RepV w (czAll w) v t.val := by
  have hl := h.1
  rw [tcells_len] at hl
  have key : ∀ arr : Array Value, Stand w arr.toList t.cells → RepV w (czAll w) (.agg arr) t.val := fun arr h =>
    .agg _ _ (RepL.ofD (C := czAll w) h.1 h.2)
  cases v <;> first | exact key _ h | (simp [Value.cells] at hl)
section
variable {H : Type} {enc : TypeId × Value → H} {w : World} {base : Nat} {spare : Nat → Bool} {held : Bool}
end
end Go.Proofs.Ytlboogackecjlaa.E

/- From a row's reading to trees, with the reach of each slice. No conditions. -/
set_option linter.unusedVariables false
set_option linter.unusedSimpArgs false
namespace Go.Proofs.Ytlboogackecjlaa.E
open Go Go.RowKit

section
variable {H : Type} {enc : TypeId × Value → H} {w : World} {base : Nat} {spare : Nat → Bool} {held : Bool}
theorem stand_sliceQ {α : Type} (Q : α → Prop) (sz : Nat) (hsz : 0 < sz) (f : α → List DV) (hf : ∀ x, (f x).length = sz) {a : Addr} {len cap : Nat} (hlc : len ≤ cap) (h : ∀ i, i < len → ∃ x cs, w.cells? base (a.add (i * sz)) sz = some cs ∧ Stand w cs (f x) ∧ Q x) :
    ∃ xs : List α, xs.length = len ∧ (∀ x ∈ xs, Q x) ∧ RepD w (rgAll w) (.slice (some a) len cap) (.sl 0 sz (xs.map f)) := by
  obtain ⟨xs, h1, h2⟩ := stand_slice (α := {x : α // Q x}) (w := w) (base := base) sz hsz (fun x => f x.1) (fun x => hf x.1) hlc (fun i hi => by
    obtain ⟨x, cs, g1, g2, g3⟩ := h i hi
    exact ⟨⟨x, g3⟩, cs, g1, g2⟩)
  refine ⟨xs.map (·.1), by simpa using h1, fun x hx => ?_, by simpa [List.map_map] using h2⟩
  obtain ⟨y, _, rfl⟩ := List.mem_map.1 hx
  exact y.2
theorem weights_part {P : Program} {ts : List TypeId} {ds : List (DataW H)} (h : (DataW.weightsEach P ts ds).all (· ≤ reachBytes) = true) {j : Nat} {t : TypeId} {d : DataW H} (ht : ts[j]? = some t) (hd : ds[j]? = some d) : (d.weights P t).all (· ≤ reachBytes) = true :=
  List.all_eq_true.2 fun n hn => List.all_eq_true.1 h n (DataW.weights_mem_each ht hd n hn)
theorem weights_all {P : Program} {e : TypeId} : ∀ {ds : List (DataW H)} {j : Nat} {d : DataW H}, ds[j]? = some d → ∀ n ∈ d.weights P e, n ∈ DataW.weightsAll P e ds
  | d0 :: ds, 0, d, hd, n, hn => by
    simp only [List.getElem?_cons_zero, Option.some.injEq] at hd
    subst hd
    simp only [DataW.weightsAll, List.mem_append]
    exact .inl hn
  | d0 :: ds, j + 1, d, hd, n, hn => by
    simp only [List.getElem?_cons_succ] at hd
    simp only [DataW.weightsAll, List.mem_append]
    exact .inr (weights_all hd n hn)
  | [], _, _, hd, _, _ => by simp at hd
theorem weights_elem {P : Program} {t e : TypeId} {elems rest : List (DataW H)} (hu : P.underlying t = some (.slice e)) (h : ((DataW.slice elems rest).weights P t).all (· ≤ reachBytes) = true) :
    elems.length * P.bytesOf e ≤ reachBytes ∧ ∀ {j : Nat} {d : DataW H}, elems[j]? = some d → (d.weights P e).all (· ≤ reachBytes) = true := by
  simp only [DataW.weights, hu] at h
  rw [List.all_eq_true] at h
  refine ⟨?_, fun hd => List.all_eq_true.2 fun n hn => h n (List.mem_cons_of_mem _ (List.mem_append.2 (.inl (weights_all hd n hn))))⟩
  have h1 := h _ (List.mem_cons_self ..)
  have h1 : (elems.length + rest.length) * P.bytesOf e ≤ reachBytes := of_decide_eq_true h1
  exact Nat.le_trans (Nat.mul_le_mul_right _ (Nat.le_add_right _ _)) h1
theorem b30 : Try.prog.bytesOf 25 = 32 := by kernel_rfl
theorem b39 : Try.prog.bytesOf 28 = 152 := by kernel_rfl
theorem reach_le {n : Nat} (h : n ≤ reachBytes) : n ≤ 140737488355328 := by
  have : reachBytes < 2 ^ 47 := by decide
  omega
set_option maxRecDepth 100000 in
theorem open_tyS : ∀ (fuel : Nat) (cs : List Value) x, DataW.trod enc Try.prog w base spare held fuel 25 cs = some x → (x.1.weights Try.prog 25).all (· ≤ reachBytes) = true → ∃ t : Ty, Stand w cs t.cells ∧ TyOk t
  | 0, cs, x, h, hz => by simp [DataW.trod] at h
  | fuel + 1, cs, x, h, hz => by
    obtain ⟨xs, n, hn, hx, hl, hxl, hf⟩ := DataW.trod_struct u30 h
    subst hx
    simp only [DataW.weights, u30] at hz
    obtain rfl : fuel = n := by omega
    rw [c30] at hl
    obtain ⟨a, b, rfl⟩ : ∃ a b, cs = [a, b] := by
      match cs, hl with
      | [a, b], _ => exact ⟨a, b, rfl⟩
    have h0 := hf 0 (fld 25 0) rfl
    have h1 := hf 1 (fld 25 1) rfl
    rw [f30_0.1, f30_0.2, c27] at h0
    rw [f30_1.1, f30_1.2, c28] at h1
    have hx0 : 0 < xs.length := by rw [hxl]; exact Nat.zero_lt_succ _
    have hx1 : 1 < xs.length := by rw [hxl]; exact Nat.lt_succ_self _
    rw [List.getElem?_eq_getElem hx0] at h0
    rw [List.getElem?_eq_getElem hx1] at h1
    have hz1 := weights_part hz (j := 1) (t := 23) (by rw [← f30_1.1]; rfl) (d := xs[1].1) (by rw [List.getElem?_map, List.getElem?_eq_getElem hx1]; rfl)
    simp only [List.drop_zero, List.take_succ_cons, List.take_zero, List.drop_succ_cons] at h0 h1
    obtain ⟨k, hk, _, _⟩ := DataW.trod_int u27 h0
    cases hk
    have two : ∀ ks : List Ty, RepD w (rgAll w) b (.sl 0 2 (Ty.rows ks)) → TyOk (.node k ks) → ∃ t : Ty, Stand w [.int .i8 k, b] t.cells ∧ TyOk t := fun ks hr hok =>
      ⟨.node k ks, ⟨rfl, fun i v y hv hy => by
        match i with
        | 0 => simp [Ty.cells] at hv hy; subst hv; subst hy; exact .int _ _
        | 1 => simp [Ty.cells] at hv hy; subst hv; subst hy; exact hr
        | i + 2 => simp at hv⟩, hok⟩
    rcases DataW.trod_slice u28 h1 with ⟨hb, _⟩ | ⟨a, len, cap, elems, rest, n, hn, hb, hxs, _, hlc, _, hel, hall, _⟩
    · cases hb
      exact two [] (.sl0 none 0 2 0) (.node (by simp) (by simp))
    · cases hb
      rw [c30] at hall
      rw [hxs] at hz1
      obtain ⟨g1, g2⟩ := weights_elem u28 hz1
      rw [b30, List.length_map, hel] at g1
      obtain ⟨ks, hks, hq, hr⟩ := stand_sliceQ (w := w) (base := base) TyOk 2 (by decide) Ty.cells cells_len (a := a) hlc (fun i hi => by
        have := hall i hi
        rw [List.getElem?_eq_getElem (by omega)] at this
        obtain ⟨cs', h2, h3⟩ := Option.bind_eq_some_iff.1 this
        obtain ⟨t, ht, ho⟩ := open_tyS n cs' _ h3 (g2 (j := i) (by rw [List.getElem?_map, List.getElem?_eq_getElem (by omega)]; rfl))
        exact ⟨t, cs', h2, ht, ho⟩)
      exact two ks (by rw [rows_map]; exact hr) (.node (by rw [hks]; exact reach_le g1) hq)
  termination_by fuel => fuel
  decreasing_by all_goals omega
set_option maxRecDepth 100000 in
theorem open_tmS : ∀ (fuel : Nat) (cs : List Value) x, DataW.trod enc Try.prog w base spare held fuel 28 cs = some x → (x.1.weights Try.prog 28).all (· ≤ reachBytes) = true → ∃ t : Tm, Stand w cs t.cells ∧ TmOk t
  | 0, cs, x, h, hz => by simp [DataW.trod] at h
  | fuel + 1, cs, x, h, hz => by
    obtain ⟨xs, n, hn, hxx, hl, hxl, hf⟩ := DataW.trod_struct u39 h
    subst hxx
    simp only [DataW.weights, u39] at hz
    obtain rfl : fuel = n := by omega
    rw [c39] at hl
    obtain ⟨v0, v1, v2, v3, v4, v5, v6, v7, v8, v9, v10, rfl⟩ : ∃ v0 v1 v2 v3 v4 v5 v6 v7 v8 v9 v10, cs = [v0, v1, v2, v3, v4, v5, v6, v7, v8, v9, v10] := by
      match cs, hl with
      | [v0, v1, v2, v3, v4, v5, v6, v7, v8, v9, v10], _ => exact ⟨_, _, _, _, _, _, _, _, _, _, _, rfl⟩
    have h0 := hf 0 (fld 28 0) rfl
    have h1 := hf 1 (fld 28 1) rfl
    have h2 := hf 2 (fld 28 2) rfl
    have h3 := hf 3 (fld 28 3) rfl
    have h4 := hf 4 (fld 28 4) rfl
    have h5 := hf 5 (fld 28 5) rfl
    have h6 := hf 6 (fld 28 6) rfl
    have h7 := hf 7 (fld 28 7) rfl
    have h8 := hf 8 (fld 28 8) rfl
    rw [f39_0.1, f39_0.2, c27] at h0
    rw [f39_1.1, f39_1.2, c9] at h1
    rw [f39_2.1, f39_2.2, c9] at h2
    rw [f39_3.1, f39_3.2, c2] at h3
    rw [f39_4.1, f39_4.2, c30] at h4
    rw [f39_5.1, f39_5.2, c30] at h5
    rw [f39_6.1, f39_6.2, c3] at h6
    rw [f39_7.1, f39_7.2, c3] at h7
    rw [f39_8.1, f39_8.2, c37] at h8
    have hx : ∀ i, i < 9 → i < xs.length := fun i hi => by rw [hxl]; exact hi
    rw [List.getElem?_eq_getElem (hx 0 (by omega))] at h0
    rw [List.getElem?_eq_getElem (hx 1 (by omega))] at h1
    rw [List.getElem?_eq_getElem (hx 2 (by omega))] at h2
    rw [List.getElem?_eq_getElem (hx 3 (by omega))] at h3
    rw [List.getElem?_eq_getElem (hx 4 (by omega))] at h4
    rw [List.getElem?_eq_getElem (hx 5 (by omega))] at h5
    rw [List.getElem?_eq_getElem (hx 6 (by omega))] at h6
    rw [List.getElem?_eq_getElem (hx 7 (by omega))] at h7
    rw [List.getElem?_eq_getElem (hx 8 (by omega))] at h8
    have hz4 := weights_part hz (j := 4) (t := 25) (by rw [← f39_4.1]; rfl) (d := (xs[4]'(hx 4 (by omega))).1) (by rw [List.getElem?_map, List.getElem?_eq_getElem (hx 4 (by omega))]; rfl)
    have hz5 := weights_part hz (j := 5) (t := 25) (by rw [← f39_5.1]; rfl) (d := (xs[5]'(hx 5 (by omega))).1) (by rw [List.getElem?_map, List.getElem?_eq_getElem (hx 5 (by omega))]; rfl)
    have hz8 := weights_part hz (j := 8) (t := 26) (by rw [← f39_8.1]; rfl) (d := (xs[8]'(hx 8 (by omega))).1) (by rw [List.getElem?_map, List.getElem?_eq_getElem (hx 8 (by omega))]; rfl)
    simp only [List.drop_zero, List.take_succ_cons, List.take_zero, List.drop_succ_cons] at h0 h1 h2 h3 h4 h5 h6 h7 h8
    obtain ⟨k, hk, _, _⟩ := DataW.trod_int u27 h0
    cases hk
    obtain ⟨name, hk, _, _⟩ := DataW.trod_string u9 h1
    cases hk
    obtain ⟨arg, hk, _, _⟩ := DataW.trod_string u9 h2
    cases hk
    obtain ⟨num, hk, _, _⟩ := DataW.trod_int u2 h3
    cases hk
    obtain ⟨⟨tk, tks⟩, ⟨_, s4⟩, o4⟩ := open_tyS _ _ _ h4 hz4
    obtain ⟨⟨uk, uks⟩, ⟨_, s5⟩, o5⟩ := open_tyS _ _ _ h5 hz5
    obtain ⟨label, hk, _, _⟩ := DataW.trod_int u3 h6
    cases hk
    obtain ⟨place, hk, _, _⟩ := DataW.trod_int u3 h7
    cases hk
    have q0 := s4 0 _ _ rfl rfl
    have q1 := s4 1 _ _ rfl rfl
    have q2 := s5 0 _ _ rfl rfl
    have q3 := s5 1 _ _ rfl rfl
    have two : ∀ ks : List Tm, RepD w (rgAll w) v10 (.sl 0 11 (Tm.rows ks)) → ks.length * 152 ≤ 140737488355328 → (∀ t ∈ ks, TmOk t) → ∃ t : Tm, Stand w [.int .i8 k, .string name, .string arg, .int .i64 num, v4, v5, v6, v7, .int .i64 label, .int .i64 place, v10] t.cells ∧ TmOk t := fun ks hr hk1 hk2 =>
      ⟨.node k name arg num tk tks uk uks label place ks, ⟨rfl, fun i v y hv hy => by
        match i with
        | 0 => simp [Tm.cells] at hv hy; subst hv; subst hy; exact .int _ _
        | 1 => simp [Tm.cells] at hv hy; subst hv; subst hy; exact .str _
        | 2 => simp [Tm.cells] at hv hy; subst hv; subst hy; exact .str _
        | 3 => simp [Tm.cells] at hv hy; subst hv; subst hy; exact .int _ _
        | 4 => simp [Tm.cells] at hv hy; subst hv; subst hy; exact q0
        | 5 => simp [Tm.cells] at hv hy; subst hv; subst hy; exact q1
        | 6 => simp [Tm.cells] at hv hy; subst hv; subst hy; exact q2
        | 7 => simp [Tm.cells] at hv hy; subst hv; subst hy; exact q3
        | 8 => simp [Tm.cells] at hv hy; subst hv; subst hy; exact .int _ _
        | 9 => simp [Tm.cells] at hv hy; subst hv; subst hy; exact .int _ _
        | 10 => simp [Tm.cells] at hv hy; subst hv; subst hy; exact hr
        | i + 11 => simp at hv⟩, .node o4 o5 hk1 hk2⟩
    rcases DataW.trod_slice u37 h8 with ⟨hb, _⟩ | ⟨a, len, cap, elems, rest, n, hn, hb, hxs, _, hlc, _, hel, hall, _⟩
    · cases hb
      exact two [] (.sl0 none 0 11 0) (by simp) (by simp)
    · cases hb
      rw [c39] at hall
      rw [hxs] at hz8
      obtain ⟨g1, g2⟩ := weights_elem u37 hz8
      rw [b39, List.length_map, hel] at g1
      obtain ⟨ks, hks, hq, hr⟩ := stand_sliceQ (w := w) (base := base) TmOk 11 (by decide) Tm.cells tcells_len (a := a) hlc (fun i hi => by
        have := hall i hi
        rw [List.getElem?_eq_getElem (by omega)] at this
        obtain ⟨cs', h2, h3⟩ := Option.bind_eq_some_iff.1 this
        obtain ⟨t, ht, ho⟩ := open_tmS n cs' _ h3 (g2 (j := i) (by rw [List.getElem?_map, List.getElem?_eq_getElem (by omega)]; rfl))
        exact ⟨t, cs', h2, ht, ho⟩)
      exact two ks (by rw [trows_map]; exact hr) (by rw [hks]; exact reach_le g1) hq
  termination_by fuel => fuel
  decreasing_by all_goals omega
end
end Go.Proofs.Ytlboogackecjlaa.E
