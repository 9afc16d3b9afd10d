/- Walks: rules.Has, defs.sound. No conditions. -/
import Derived.Test.YthmbncehoblgpaaGreatDoorDf0
import Derived.Test.YthmbncehoblgpaaGreatDoorTm14
import Derived.Test.YthmbncehoblgpaaGreatDoorEngX3
set_option linter.unusedVariables false
set_option linter.unusedSimpArgs false
namespace Go.Proofs.YthmbncehoblgpaaGreatDoor.E
open Go
def oTDf1_14_8 : OT := (.op 0 (.op 1 (.op 2 (.alt (.op 3 (.alt (.op 4 (.op 5 (.op 6 .nil))) (.op 5 (.op 4 (.op 6 .nil))))) (.op 5 (.op 3 (.op 4 (.op 6 .nil))))))))

set_option maxRecDepth 10000 in
theorem phas_call (q : Int) (t : Tm) : tmN t ≤ 8192 → ACall Tryz.prog 26 [.c (.d (.rp 0 t.cells)), .c (.d (.int .i8 q))] [] (fun o σ => o = .ret (.c (.d (.bool (tmhas q t)))) ∧ σ = []) := by
  induction t using Tm.ind with
  | _ k name arg num tk tks uk uks label place ks ih =>
  intro hN
  have hlen := tmNL_len ks
  simp only [tmN] at hN
  have ih' : ∀ t ∈ ks, ACall Tryz.prog 26 [.c (.d (.rp 0 t.cells)), .c (.d (.int .i8 q))] [] (fun o σ => o = .ret (.c (.d (.bool (tmhas q t)))) ∧ σ = []) := fun t ht => ih t ht (by have := tmN_mem ks t ht; omega)
  have e : tmhas q (.node k name arg num tk tks uk uks label place ks) = (decide (k = q) || tmhass q ks) := rfl
  rw [e]
  refine ACall.body tab_ok (ρ := 0) (N := 29) Tryz.func26 rfl rfl rfl rfl rfl ?_
  repeat' first | refine AW.seq ?_ | refine AW.block ?_ | ((first | refine AW.region tab_ok ?_ | refine AW.cond ?_ | refine AW.skip ?_ | refine AW.ret ?_ | refine AW.exit ?_); conv => whnf) | ((first | refine And.intro (@rfl Val _) ?_ | refine And.intro (by decide) ?_ | refine cs (fun _ => ?_) (fun _ => ?_)) <;> conv => whnf)
  · rename_i h
    have h : k = q := by simpa using h
    exact ⟨outb (by simp [h]), rfl⟩
  · rename_i h
    have h : k ≠ q := by simpa using h
    rw [show decide (k = q) = false by simp [h], Bool.false_or]
    refine AW.loop (ι := TmHasI q ks) (fun x => ⟨29, [(17, .c (.d (.int .i64 x.i))), (16, .c (.d (.int .i64 (Tm.rows ks).length))), (0, .c (.d (.rp 0 [.int .i8 k, .str name, .str arg, .int .i64 num, .int .i8 tk, .sl 0 2 (Ty.rows tks), .int .i8 uk, .sl 0 2 (Ty.rows uks), .int .i64 label, .int .i64 place, .sl 0 11 (Tm.rows ks)]))), (1, .c (.d (.int .i8 q)))], [], []⟩)
      (fun x => ks.length - x.i) ⟨0, Nat.zero_le _, rfl⟩ 0 (fun _ => rfl) (Nat.le_of_ble_eq_true rfl) ⟨⟨rfl, rfl, rfl, rfl, trivial⟩, rfl, rfl, ⟨[], rfl⟩, rfl⟩ (fun x => ?_)
    obtain ⟨i, hi, hj⟩ := x
    repeat' first | refine AW.seq ?_ | refine AW.block ?_ | ((first | refine AW.region tab_ok ?_ | refine AW.cond ?_ | refine AW.skip ?_ | refine AW.ret ?_ | refine AW.exit ?_); conv => whnf) | ((first | refine And.intro (@rfl Val _) ?_ | refine And.intro (by decide) ?_ | refine cs (fun _ => ?_) (fun _ => ?_)) <;> conv => whnf)
    · rename_i h2
      simp only [trows_length] at h2 ⊢
      have := of_decide_eq_true h2
      refine ⟨by omega, fun row hrow => ?_⟩
      obtain ⟨⟨kx, namex, argx, numx, tkx, tksx, ukx, uksx, labelx, placex, ksx⟩, ht, rfl⟩ := trows_get ks i row (by simpa using hrow)
      have hlt : i < ks.length := (List.getElem?_eq_some_iff.1 ht).1
      have hmem := List.mem_of_getElem? ht
      have hc := ih' _ hmem
      have hn := tmhass_take q ks i _ ht
      have hf := tmhass_mem q ks _ hmem
      generalize tmhas q (Tm.node kx namex argx numx tkx tksx ukx uksx labelx placex ksx) = b at hc hn hf
      conv => whnf
      repeat' first | refine AW.seq ?_ | refine AW.block ?_ | ((first | refine AW.region tab_ok ?_ | refine AW.cond ?_ | refine AW.skip ?_ | refine AW.ret ?_ | refine AW.exit ?_); conv => whnf) | (refine (hc).mono ?_; rintro _ _ ⟨rfl, rfl⟩; conv => whnf) | ((first | refine And.intro (@rfl Val _) ?_ | refine And.intro (by decide) ?_ | refine cs (fun _ => ?_) (fun _ => ?_)) <;> conv => whnf)
      · rename_i h3
        exact ⟨outb (hf h3).symm, rfl⟩
      · rename_i h3
        rw [wrap64 (x := (i : Int) + 1) (by omega) (by omega)]
        exact ⟨⟨i + 1, hlt, by rw [hn, hj, h3]; rfl⟩, ⟨⟨rfl, rfl, rfl, rfl, trivial⟩, rfl, rfl, ⟨[], rfl⟩, rfl⟩, show ks.length - (i + 1) < ks.length - i by omega⟩
    · rename_i h2
      simp only [trows_length] at h2
      have := of_decide_eq_false h2
      obtain rfl : i = ks.length := by omega
      simp only [List.take_length] at hj
      exact ⟨outb hj.symm, rfl⟩

structure SoI (l : List Df) where
  i : Nat
  hi : i ≤ l.length
  hb : ∀ j, j < i → badAt l j = false
structure SoE (l : List Df) where
  i : Nat
  hi : i ≤ l.length
  he : ∀ j, j < i → errAt l j = 0
theorem enc0 (l : List Df) : encL (hv 0 (l.take 0)) = [] := by simp [hv, encL]
theorem obj0 (l : List Df) : ∃ ξ, [AObj.mp KK.str 0 []] = [AObj.mp KK.str 0 (encL (hv 0 (l.take 0)))] ++ ξ := ⟨[], by rw [enc0]; rfl⟩
theorem take_snoc {l : List Df} {i : Nat} {d : Df} (h : l[i]? = some d) : l.take (i + 1) = l.take i ++ [d] := by
  rw [List.take_add_one, h]; rfl
set_option maxRecDepth 10000 in
theorem sound_call (l : List Df) (main : ByteArray) : ACall Tryz.prog 14 [.c (.d (.sl 0 15 (drows l))), .c (.d (.str main))] [] (fun o σ => o = .ret (.tup [.c (.d (.int .i64 (soundF l main).1)), .c (.d (errV (soundF l main).2))]) ∧ σ = []) := by
  refine ACall.body tab_ok (ρ := 0) (N := 87) Tryz.func14 rfl rfl rfl rfl rfl ?_
  repeat' first | refine AW.seq ?_ | refine AW.block ?_ | (refine (id : AW _ _ _ (.region 8 _ true) _ _ → _) ?_; refine AW.drawT (id := 8) tab_ok mixed [0, 1, 2, 3, 4, 5, 6] oTDf1_14_8 (by kernel_rfl) ?_; conv => whnf) | (refine Fork.mk ?_ ?_ <;> conv => whnf) | ((first | refine AW.region tab_ok ?_ | refine AW.cond ?_ | refine AW.skip ?_ | refine AW.ret ?_ | refine AW.exit ?_); conv => whnf) | ((first | refine And.intro (@rfl Val _) ?_ | refine And.intro (by decide) ?_ | refine cs (fun _ => ?_) (fun _ => ?_)) <;> conv => whnf)
  · rename_i h
    rw [drows_len] at h
    have h : l.length > 256 := by have := of_decide_eq_true h; omega
    rw [soundF_long h]
    exact ⟨rfl, rfl⟩
  rename_i hlen
  rw [drows_len] at hlen
  have hlen : ¬ l.length > 256 := by have := of_decide_eq_false hlen; omega
  refine AW.loop (ι := SoI l) (fun x => ⟨87, [(21, .c (.d (.int .i64 x.i))), (20, .c (.d (.int .i64 (drows l).length))), (19, .c (.d (.sl 0 15 (drows l)))), (6, .c (.mp 0)), (0, .c (.d (.sl 0 15 (drows l)))), (1, .c (.d (.str main)))], [.mp .str x.i (encL (hv 0 (l.take x.i)))], []⟩)
    (fun x => l.length - x.i) ⟨0, Nat.zero_le _, fun j h => by omega⟩ 1 (fun _ => rfl) (Nat.le_of_ble_eq_true rfl) ⟨⟨rfl, rfl, rfl, rfl, rfl, rfl, trivial⟩, rfl, rfl, obj0 l, rfl⟩ (fun x => ?_)
  obtain ⟨i, hi, hb⟩ := x
  repeat' first | refine AW.seq ?_ | refine AW.block ?_ | (refine (id : AW _ _ _ (.region 8 _ true) _ _ → _) ?_; refine AW.drawT (id := 8) tab_ok mixed [0, 1, 2, 3, 4, 5, 6] oTDf1_14_8 (by kernel_rfl) ?_; conv => whnf) | (refine Fork.mk ?_ ?_ <;> conv => whnf) | ((first | refine AW.region tab_ok ?_ | refine AW.cond ?_ | refine AW.skip ?_ | refine AW.ret ?_ | refine AW.exit ?_); conv => whnf) | ((first | refine And.intro (@rfl Val _) ?_ | refine And.intro (by decide) ?_ | refine cs (fun _ => ?_) (fun _ => ?_)) <;> conv => whnf)
  · rename_i h1
    simp only [drows_len] at h1 ⊢
    have := of_decide_eq_true h1
    refine ⟨by omega, fun row hrow => ?_⟩
    obtain ⟨d, hd, rfl⟩ := drows_get (by simpa using hrow)
    have hlt : i < l.length := (List.getElem?_eq_some_iff.1 hd).1
    have hbad := badAt_nix hd
    have hs := take_snoc hd
    have c1 := name_call d.name
    have htv := tval_hv d.name (l.take i) 0
    have hfin := soundF_bad (main := main) hlen hd
    have hlt2 : (l.take i).length = i := by simp; omega
    obtain ⟨s, ⟨a, bs⟩, ⟨k, name, arg, num, tk, tks, uk, uks, label, place, ks⟩, pl⟩ := d
    simp only at hbad hs c1 htv hfin
    have hput := fun h0 => tput_hv (d := ⟨s, .node a bs, .node k name arg num tk tks uk uks label place ks, pl⟩) hlt2.symm rfl h0 ((i : Int) + 1) rfl
    rw [← hs] at hput
    simp only at hput
    generalize nameF s = nf at hbad c1
    conv => whnf
    repeat' first | ((refine mlook_of ?_; conv => whnf)) | ((refine mput_of ?_; conv => whnf)) | refine AW.seq ?_ | refine AW.block ?_ | (refine (id : AW _ _ _ (.region 8 _ true) _ _ → _) ?_; refine AW.drawT (id := 8) tab_ok mixed [0, 1, 2, 3, 4, 5, 6] oTDf1_14_8 (by kernel_rfl) ?_; conv => whnf) | (refine Fork.mk ?_ ?_ <;> conv => whnf) | ((first | refine AW.region tab_ok ?_ | refine AW.cond ?_ | refine AW.skip ?_ | refine AW.ret ?_ | refine AW.exit ?_); conv => whnf) | (refine (c1).mono ?_; rintro _ _ ⟨rfl, rfl⟩; conv => whnf) | ((first | refine And.intro (@rfl Val _) ?_ | refine And.intro (by decide) ?_ | refine cs (fun _ => ?_) (fun _ => ?_)) <;> conv => whnf)
    all_goals first
    | (rename_i h
       have hnf : nf = false := by simpa using h
       rw [hfin (by simp [hbad, hnf]) hb]
       exact ⟨rfl, rfl⟩)
    | (rename_i h0 h
       have h : ¬ nix s 0 (l.take i) = 0 := fun e => by rw [htv, e] at h; simp at h
       rw [hfin (by simp [hbad, h]) hb]
       exact ⟨rfl, rfl⟩)
    | skip
    rename_i h0 h
    have hnf : nf = true := by simpa using h0
    have h : nix s 0 (l.take i) = 0 := by
      refine Classical.byContradiction fun hne => ?_
      obtain ⟨j, e, _, _, h3, _⟩ := nix_pos hne
      rw [htv, h3] at h
      have := of_decide_eq_false h
      omega
    rw [wrap64 (x := (i : Int) + 1) (by omega) (by omega), hput h]
    exact ⟨⟨i + 1, hlt, fun j hj => by
      by_cases e : j = i
      · subst e; rw [hbad, hnf, h]; rfl
      · exact hb j (by omega)⟩, ⟨⟨rfl, rfl, rfl, rfl, rfl, rfl, trivial⟩, rfl, rfl, ⟨_, rfl⟩, rfl⟩, show l.length - (i + 1) < l.length - i by omega⟩
  · rename_i h1
    simp only [drows_len] at h1
    have := of_decide_eq_false h1
    obtain rfl : i = l.length := by omega
    refine AW.loop (ι := SoE l) (fun x => ⟨87, [(50, .c (.d (.int .i64 x.i))), (49, .c (.d (.int .i64 (drows l).length))), (48, .c (.d (.sl 0 15 (drows l)))), (6, .c (.mp 0)), (0, .c (.d (.sl 0 15 (drows l)))), (1, .c (.d (.str main)))], [.mp .str l.length (encL (hv 0 (l.take l.length)))], []⟩)
      (fun x => l.length - x.i) ⟨0, Nat.zero_le _, fun j h => by omega⟩ 1 (fun _ => rfl) (Nat.le_of_ble_eq_true rfl) ⟨⟨rfl, rfl, rfl, rfl, rfl, rfl, trivial⟩, rfl, rfl, ⟨[], rfl⟩, rfl⟩ (fun x => ?_)
    obtain ⟨i, hi, he⟩ := x
    repeat' first | ((refine mlook_of ?_; conv => whnf)) | refine AW.seq ?_ | refine AW.block ?_ | (refine (id : AW _ _ _ (.region 8 _ true) _ _ → _) ?_; refine AW.drawT (id := 8) tab_ok mixed [0, 1, 2, 3, 4, 5, 6] oTDf1_14_8 (by kernel_rfl) ?_; conv => whnf) | (refine Fork.mk ?_ ?_ <;> conv => whnf) | ((first | refine AW.region tab_ok ?_ | refine AW.cond ?_ | refine AW.skip ?_ | refine AW.ret ?_ | refine AW.exit ?_); conv => whnf) | ((first | refine And.intro (@rfl Val _) ?_ | refine And.intro (by decide) ?_ | refine cs (fun _ => ?_) (fun _ => ?_)) <;> conv => whnf)
    · rename_i h1
      simp only [drows_len] at h1 ⊢
      have := of_decide_eq_true h1
      refine ⟨by omega, fun row hrow => ?_⟩
      obtain ⟨d, hd, rfl⟩ := drows_get (by simpa using hrow)
      have hlt : i < l.length := (List.getElem?_eq_some_iff.1 hd).1
      have herr : errAt l i = errD d := by simp [errAt, hd]
      have hfin := soundF_err (main := main) hlen hb hd
      have c1 := tmCheck_call d.tm
      have c2 := fun h => phas_call 17 d.tm (tmcheck_ok h).1
      have c3 := check_call d.ty
      unfold errD at herr hfin
      obtain ⟨s, ⟨a, bs⟩, ⟨k, name, arg, num, tk, tks, uk, uks, label, place, ks⟩, pl⟩ := d
      simp only at herr hfin c1 c2 c3
      generalize tmcheck (Tm.node k name arg num tk tks uk uks label place ks) = q1 at *
      generalize tmhas 17 (Tm.node k name arg num tk tks uk uks label place ks) = q2 at *
      generalize tcheck (Ty.node a bs) = q3 at *
      by_cases hq : q1 = 0
      · subst hq
        conv => whnf
        repeat' first | refine AW.seq ?_ | refine AW.block ?_ | (refine (id : AW _ _ _ (.region 8 _ true) _ _ → _) ?_; refine AW.drawT (id := 8) tab_ok mixed [0, 1, 2, 3, 4, 5, 6] oTDf1_14_8 (by kernel_rfl) ?_; conv => whnf) | (refine Fork.mk ?_ ?_ <;> conv => whnf) | ((first | refine AW.region tab_ok ?_ | refine AW.cond ?_ | refine AW.skip ?_ | refine AW.ret ?_ | refine AW.exit ?_); conv => whnf) | ((first | refine (c1).mono ?_ | refine ((c2 rfl).args (.cons (.rp 0 [_, _, _, _, _, _, _, _, _, _, _] _) (.cons (.same _) .nil))).mono ?_ | refine (c3).mono ?_); rintro _ _ ⟨rfl, rfl⟩; conv => whnf) | ((first | refine And.intro (@rfl Val _) ?_ | refine And.intro (by decide) ?_ | refine cs (fun _ => ?_) (fun _ => ?_)) <;> conv => whnf)
        · rename_i h
          have h : q2 = true := by simpa using h
          rw [hfin (by simp [h]) he]
          simp only [h, if_true, ne_eq, not_true, if_false]
          exact ⟨rfl, rfl⟩
        · rename_i h2 h
          have h2 : q2 = false := by simpa using h2
          have h : q3 ≠ 0 := bne_iff_ne.1 h
          have hx : (if (0 : Int) ≠ 0 then 0 else if q2 = true then 30 else q3) = q3 := by simp [h2]
          rw [hx] at hfin
          rw [hfin h he]
          refine ⟨?_, rfl⟩
          simp only [errV, if_neg h]
          rfl
        · rename_i h2 h
          have h2 : q2 = false := by simpa using h2
          have h : q3 = 0 := by simpa using h
          rw [wrap64 (x := (i : Int) + 1) (by omega) (by omega)]
          exact ⟨⟨i + 1, hlt, fun j hj => by
            by_cases e : j = i
            · subst e; rw [herr]; simp [h2, h]
            · exact he j (by omega)⟩, ⟨⟨rfl, rfl, rfl, rfl, rfl, rfl, trivial⟩, rfl, rfl, ⟨_, rfl⟩, rfl⟩, show l.length - (i + 1) < l.length - i by omega⟩
      · conv => whnf
        repeat' first | ((refine cs (fun h => absurd (of_decide_eq_true h) hq) (fun _ => ?_); conv => whnf)) | ((refine cs (fun h => absurd (eq_of_beq h) hq) (fun _ => ?_); conv => whnf)) | refine AW.seq ?_ | refine AW.block ?_ | (refine (id : AW _ _ _ (.region 8 _ true) _ _ → _) ?_; refine AW.drawT (id := 8) tab_ok mixed [0, 1, 2, 3, 4, 5, 6] oTDf1_14_8 (by kernel_rfl) ?_; conv => whnf) | (refine Fork.mk ?_ ?_ <;> conv => whnf) | ((first | refine AW.region tab_ok ?_ | refine AW.cond ?_ | refine AW.skip ?_ | refine AW.ret ?_ | refine AW.exit ?_); conv => whnf) | (refine (c1).mono ?_; rintro _ _ ⟨rfl, rfl⟩; conv => whnf) | ((first | refine And.intro (@rfl Val _) ?_ | refine And.intro (by decide) ?_ | refine cs (fun _ => ?_) (fun _ => ?_)) <;> conv => whnf)
        · have hx : (if q1 ≠ 0 then q1 else if q2 = true then 30 else q3) = q1 := by simp [hq]
          rw [hx] at hfin
          rw [hfin hq he]
          refine ⟨?_, rfl⟩
          simp only [errV, if_neg hq]
          rfl
        · rename_i h
          exact absurd (by simpa using h) hq
    · rename_i h2 hz
      have hz : nix main 0 l = 0 := by rw [tval_hv, List.take_length] at hz; exact eq_of_beq hz
      simp only [drows_len] at h2
      have h2 := of_decide_eq_false h2
      rw [soundF_end hlen hb (fun j hj => he j (by omega)), if_pos hz]
      exact ⟨rfl, rfl⟩
    · rename_i h2 hz
      have hz : ¬ nix main 0 l = 0 := by rw [tval_hv, List.take_length] at hz; exact beq_eq_false_iff_ne.1 hz
      simp only [drows_len] at h2
      have h2 := of_decide_eq_false h2
      rw [soundF_end hlen hb (fun j hj => he j (by omega)), if_neg hz, tval_hv, List.take_length]
      obtain ⟨j, e, h3, _, h4, _⟩ := nix_pos hz
      have := (List.getElem?_eq_some_iff.1 h3).1
      rw [h4, wrap64 (by omega) (by omega)]
      exact ⟨rfl, rfl⟩
end Go.Proofs.YthmbncehoblgpaaGreatDoor.E
