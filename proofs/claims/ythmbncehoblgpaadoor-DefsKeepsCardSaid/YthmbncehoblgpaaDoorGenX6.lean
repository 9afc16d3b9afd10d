/- Texts, merged: Df1, Lay190, FrS, Fr2. No conditions. -/
import Derived.Test.YthmbncehoblgpaaDoorGenX5
import Derived.Test.YthmbncehoblgpaaDoorEngX3
import Derived.Test.YthmbncehoblgpaaDoorTab
import Derived.Shelf.Sort.Plain
import Derived.KernelRfl
import Derived.Shelf.Slices.In.SortNone
import Derived.Sort.OwnSorted
import Derived.Lib.OwnBridge
/- Walks: rules.Has, defs.sound. No conditions. -/
set_option linter.unusedVariables false
set_option linter.unusedSimpArgs false
namespace Go.Proofs.YthmbncehoblgpaaDoor.E
open Go
def oTDf1_11_8 : OT := (.op 0 (.op 1 (.op 2 (.alt (.op 3 (.alt (.op 4 (.op 5 (.op 6 .nil))) (.op 5 (.op 4 (.op 6 .nil))))) (.op 5 (.op 3 (.op 4 (.op 6 .nil))))))))

set_option maxRecDepth 10000 in
theorem phas_call (q : Int) (t : Tm) : tmN t ≤ 8192 → ACall Tryd.prog 26 [.c (.d (.rp 0 t.cells)), .c (.d (.int .i8 q))] [] (fun o σ => o = .ret (.c (.d (.bool (tmhas q t)))) ∧ σ = []) := by
  induction t using Tm.ind with
  | _ k name arg num tk tks uk uks label place ks ih =>
  intro hN
  have hlen := tmNL_len ks
  simp only [tmN] at hN
  have ih' : ∀ t ∈ ks, ACall Tryd.prog 26 [.c (.d (.rp 0 t.cells)), .c (.d (.int .i8 q))] [] (fun o σ => o = .ret (.c (.d (.bool (tmhas q t)))) ∧ σ = []) := fun t ht => ih t ht (by have := tmN_mem ks t ht; omega)
  have e : tmhas q (.node k name arg num tk tks uk uks label place ks) = (decide (k = q) || tmhass q ks) := rfl
  rw [e]
  refine ACall.body tab_ok (ρ := 0) (N := 29) Tryd.func26 rfl rfl rfl rfl rfl ?_
  repeat' first | refine AW.seq ?_ | refine AW.block ?_ | ((first | refine AW.region tab_ok ?_ | refine AW.cond ?_ | refine AW.skip ?_ | refine AW.ret ?_ | refine AW.exit ?_); conv => whnf) | ((first | refine And.intro (@rfl Val _) ?_ | refine And.intro (by decide) ?_ | refine cs (fun _ => ?_) (fun _ => ?_)) <;> conv => whnf)
  · rename_i h
    have h : k = q := by simpa using h
    exact ⟨outb (by simp [h]), rfl⟩
  · rename_i h
    have h : k ≠ q := by simpa using h
    rw [show decide (k = q) = false by simp [h], Bool.false_or]
    refine AW.loop (ι := TmHasI q ks) (fun x => ⟨29, [(17, .c (.d (.int .i64 x.i))), (16, .c (.d (.int .i64 (Tm.rows ks).length))), (0, .c (.d (.rp 0 [.int .i8 k, .str name, .str arg, .int .i64 num, .int .i8 tk, .sl 0 2 (Ty.rows tks), .int .i8 uk, .sl 0 2 (Ty.rows uks), .int .i64 label, .int .i64 place, .sl 0 11 (Tm.rows ks)]))), (1, .c (.d (.int .i8 q)))], [], []⟩)
      (fun x => ks.length - x.i) ⟨0, Nat.zero_le _, rfl⟩ 0 (fun _ => rfl) (Nat.le_of_ble_eq_true rfl) ⟨⟨rfl, rfl, rfl, rfl, trivial⟩, rfl, rfl, ⟨[], rfl⟩, rfl⟩ (fun x => ?_)
    obtain ⟨i, hi, hj⟩ := x
    repeat' first | refine AW.seq ?_ | refine AW.block ?_ | ((first | refine AW.region tab_ok ?_ | refine AW.cond ?_ | refine AW.skip ?_ | refine AW.ret ?_ | refine AW.exit ?_); conv => whnf) | ((first | refine And.intro (@rfl Val _) ?_ | refine And.intro (by decide) ?_ | refine cs (fun _ => ?_) (fun _ => ?_)) <;> conv => whnf)
    · rename_i h2
      simp only [trows_length] at h2 ⊢
      have := of_decide_eq_true h2
      refine ⟨by omega, fun row hrow => ?_⟩
      obtain ⟨⟨kx, namex, argx, numx, tkx, tksx, ukx, uksx, labelx, placex, ksx⟩, ht, rfl⟩ := trows_get ks i row (by simpa using hrow)
      have hlt : i < ks.length := (List.getElem?_eq_some_iff.1 ht).1
      have hmem := List.mem_of_getElem? ht
      have hc := ih' _ hmem
      have hn := tmhass_take q ks i _ ht
      have hf := tmhass_mem q ks _ hmem
      generalize tmhas q (Tm.node kx namex argx numx tkx tksx ukx uksx labelx placex ksx) = b at hc hn hf
      conv => whnf
      repeat' first | refine AW.seq ?_ | refine AW.block ?_ | ((first | refine AW.region tab_ok ?_ | refine AW.cond ?_ | refine AW.skip ?_ | refine AW.ret ?_ | refine AW.exit ?_); conv => whnf) | (refine (hc).mono ?_; rintro _ _ ⟨rfl, rfl⟩; conv => whnf) | ((first | refine And.intro (@rfl Val _) ?_ | refine And.intro (by decide) ?_ | refine cs (fun _ => ?_) (fun _ => ?_)) <;> conv => whnf)
      · rename_i h3
        exact ⟨outb (hf h3).symm, rfl⟩
      · rename_i h3
        rw [wrap64 (x := (i : Int) + 1) (by omega) (by omega)]
        exact ⟨⟨i + 1, hlt, by rw [hn, hj, h3]; rfl⟩, ⟨⟨rfl, rfl, rfl, rfl, trivial⟩, rfl, rfl, ⟨[], rfl⟩, rfl⟩, show ks.length - (i + 1) < ks.length - i by omega⟩
    · rename_i h2
      simp only [trows_length] at h2
      have := of_decide_eq_false h2
      obtain rfl : i = ks.length := by omega
      simp only [List.take_length] at hj
      exact ⟨outb hj.symm, rfl⟩

structure SoI (l : List Df) where
  i : Nat
  hi : i ≤ l.length
  hb : ∀ j, j < i → badAt l j = false
structure SoE (l : List Df) where
  i : Nat
  hi : i ≤ l.length
  he : ∀ j, j < i → errAt l j = 0
theorem enc0 (l : List Df) : encL (hv 0 (l.take 0)) = [] := by simp [hv, encL]
theorem obj0 (l : List Df) : ∃ ξ, [AObj.mp KK.str 0 []] = [AObj.mp KK.str 0 (encL (hv 0 (l.take 0)))] ++ ξ := ⟨[], by rw [enc0]; rfl⟩
theorem take_snoc {l : List Df} {i : Nat} {d : Df} (h : l[i]? = some d) : l.take (i + 1) = l.take i ++ [d] := by
  rw [List.take_add_one, h]; rfl
set_option maxRecDepth 10000 in
theorem sound_call (l : List Df) (main : ByteArray) : ACall Tryd.prog 11 [.c (.d (.sl 0 15 (drows l))), .c (.d (.str main))] [] (fun o σ => o = .ret (.tup [.c (.d (.int .i64 (soundF l main).1)), .c (.d (errV (soundF l main).2))]) ∧ σ = []) := by
  refine ACall.body tab_ok (ρ := 0) (N := 87) Tryd.func11 rfl rfl rfl rfl rfl ?_
  repeat' first | refine AW.seq ?_ | refine AW.block ?_ | (refine (_root_.id : AW _ _ _ (.region 8 _ true) _ _ → _) ?_; refine AW.drawT (id := 8) tab_ok mixed [0, 1, 2, 3, 4, 5, 6] oTDf1_11_8 (by kernel_rfl) ?_; conv => whnf) | (refine Fork.mk ?_ ?_ <;> conv => whnf) | ((first | refine AW.region tab_ok ?_ | refine AW.cond ?_ | refine AW.skip ?_ | refine AW.ret ?_ | refine AW.exit ?_); conv => whnf) | ((first | refine And.intro (@rfl Val _) ?_ | refine And.intro (by decide) ?_ | refine cs (fun _ => ?_) (fun _ => ?_)) <;> conv => whnf)
  · rename_i h
    rw [drows_len] at h
    have h : l.length > 256 := by have := of_decide_eq_true h; omega
    rw [soundF_long h]
    exact ⟨rfl, rfl⟩
  rename_i hlen
  rw [drows_len] at hlen
  have hlen : ¬ l.length > 256 := by have := of_decide_eq_false hlen; omega
  refine AW.loop (ι := SoI l) (fun x => ⟨87, [(21, .c (.d (.int .i64 x.i))), (20, .c (.d (.int .i64 (drows l).length))), (19, .c (.d (.sl 0 15 (drows l)))), (6, .c (.mp 0)), (0, .c (.d (.sl 0 15 (drows l)))), (1, .c (.d (.str main)))], [.mp .str x.i (encL (hv 0 (l.take x.i)))], []⟩)
    (fun x => l.length - x.i) ⟨0, Nat.zero_le _, fun j h => by omega⟩ 1 (fun _ => rfl) (Nat.le_of_ble_eq_true rfl) ⟨⟨rfl, rfl, rfl, rfl, rfl, rfl, trivial⟩, rfl, rfl, obj0 l, rfl⟩ (fun x => ?_)
  obtain ⟨i, hi, hb⟩ := x
  repeat' first | refine AW.seq ?_ | refine AW.block ?_ | (refine (_root_.id : AW _ _ _ (.region 8 _ true) _ _ → _) ?_; refine AW.drawT (id := 8) tab_ok mixed [0, 1, 2, 3, 4, 5, 6] oTDf1_11_8 (by kernel_rfl) ?_; conv => whnf) | (refine Fork.mk ?_ ?_ <;> conv => whnf) | ((first | refine AW.region tab_ok ?_ | refine AW.cond ?_ | refine AW.skip ?_ | refine AW.ret ?_ | refine AW.exit ?_); conv => whnf) | ((first | refine And.intro (@rfl Val _) ?_ | refine And.intro (by decide) ?_ | refine cs (fun _ => ?_) (fun _ => ?_)) <;> conv => whnf)
  · rename_i h1
    simp only [drows_len] at h1 ⊢
    have := of_decide_eq_true h1
    refine ⟨by omega, fun row hrow => ?_⟩
    obtain ⟨d, hd, rfl⟩ := drows_get (by simpa using hrow)
    have hlt : i < l.length := (List.getElem?_eq_some_iff.1 hd).1
    have hbad := badAt_nix hd
    have hs := take_snoc hd
    have c1 := name_call d.name
    have htv := tval_hv d.name (l.take i) 0
    have hfin := soundF_bad (main := main) hlen hd
    have hlt2 : (l.take i).length = i := by simp; omega
    obtain ⟨s, ⟨a, bs⟩, ⟨k, name, arg, num, tk, tks, uk, uks, label, place, ks⟩, pl⟩ := d
    simp only at hbad hs c1 htv hfin
    have hput := fun h0 => tput_hv (d := ⟨s, .node a bs, .node k name arg num tk tks uk uks label place ks, pl⟩) hlt2.symm rfl h0 ((i : Int) + 1) rfl
    rw [← hs] at hput
    simp only at hput
    generalize nameF s = nf at hbad c1
    conv => whnf
    repeat' first | ((refine mlook_of ?_; conv => whnf)) | ((refine mput_of ?_; conv => whnf)) | refine AW.seq ?_ | refine AW.block ?_ | (refine (_root_.id : AW _ _ _ (.region 8 _ true) _ _ → _) ?_; refine AW.drawT (id := 8) tab_ok mixed [0, 1, 2, 3, 4, 5, 6] oTDf1_11_8 (by kernel_rfl) ?_; conv => whnf) | (refine Fork.mk ?_ ?_ <;> conv => whnf) | ((first | refine AW.region tab_ok ?_ | refine AW.cond ?_ | refine AW.skip ?_ | refine AW.ret ?_ | refine AW.exit ?_); conv => whnf) | (refine (c1).mono ?_; rintro _ _ ⟨rfl, rfl⟩; conv => whnf) | ((first | refine And.intro (@rfl Val _) ?_ | refine And.intro (by decide) ?_ | refine cs (fun _ => ?_) (fun _ => ?_)) <;> conv => whnf)
    all_goals first
    | (rename_i h
       have hnf : nf = false := by simpa using h
       rw [hfin (by simp [hbad, hnf]) hb]
       exact ⟨rfl, rfl⟩)
    | (rename_i h0 h
       have h : ¬ nix s 0 (l.take i) = 0 := fun e => by rw [htv, e] at h; simp at h
       rw [hfin (by simp [hbad, h]) hb]
       exact ⟨rfl, rfl⟩)
    | skip
    rename_i h0 h
    have hnf : nf = true := by simpa using h0
    have h : nix s 0 (l.take i) = 0 := by
      refine Classical.byContradiction fun hne => ?_
      obtain ⟨j, e, _, _, h3, _⟩ := nix_pos hne
      rw [htv, h3] at h
      have := of_decide_eq_false h
      omega
    rw [wrap64 (x := (i : Int) + 1) (by omega) (by omega), hput h]
    exact ⟨⟨i + 1, hlt, fun j hj => by
      by_cases e : j = i
      · subst e; rw [hbad, hnf, h]; rfl
      · exact hb j (by omega)⟩, ⟨⟨rfl, rfl, rfl, rfl, rfl, rfl, trivial⟩, rfl, rfl, ⟨_, rfl⟩, rfl⟩, show l.length - (i + 1) < l.length - i by omega⟩
  · rename_i h1
    simp only [drows_len] at h1
    have := of_decide_eq_false h1
    obtain rfl : i = l.length := by omega
    refine AW.loop (ι := SoE l) (fun x => ⟨87, [(50, .c (.d (.int .i64 x.i))), (49, .c (.d (.int .i64 (drows l).length))), (48, .c (.d (.sl 0 15 (drows l)))), (6, .c (.mp 0)), (0, .c (.d (.sl 0 15 (drows l)))), (1, .c (.d (.str main)))], [.mp .str l.length (encL (hv 0 (l.take l.length)))], []⟩)
      (fun x => l.length - x.i) ⟨0, Nat.zero_le _, fun j h => by omega⟩ 1 (fun _ => rfl) (Nat.le_of_ble_eq_true rfl) ⟨⟨rfl, rfl, rfl, rfl, rfl, rfl, trivial⟩, rfl, rfl, ⟨[], rfl⟩, rfl⟩ (fun x => ?_)
    obtain ⟨i, hi, he⟩ := x
    repeat' first | ((refine mlook_of ?_; conv => whnf)) | refine AW.seq ?_ | refine AW.block ?_ | (refine (_root_.id : AW _ _ _ (.region 8 _ true) _ _ → _) ?_; refine AW.drawT (id := 8) tab_ok mixed [0, 1, 2, 3, 4, 5, 6] oTDf1_11_8 (by kernel_rfl) ?_; conv => whnf) | (refine Fork.mk ?_ ?_ <;> conv => whnf) | ((first | refine AW.region tab_ok ?_ | refine AW.cond ?_ | refine AW.skip ?_ | refine AW.ret ?_ | refine AW.exit ?_); conv => whnf) | ((first | refine And.intro (@rfl Val _) ?_ | refine And.intro (by decide) ?_ | refine cs (fun _ => ?_) (fun _ => ?_)) <;> conv => whnf)
    · rename_i h1
      simp only [drows_len] at h1 ⊢
      have := of_decide_eq_true h1
      refine ⟨by omega, fun row hrow => ?_⟩
      obtain ⟨d, hd, rfl⟩ := drows_get (by simpa using hrow)
      have hlt : i < l.length := (List.getElem?_eq_some_iff.1 hd).1
      have herr : errAt l i = errD d := by simp [errAt, hd]
      have hfin := soundF_err (main := main) hlen hb hd
      have c1 := tmCheck_call d.tm
      have c2 := fun h => phas_call 17 d.tm (tmcheck_ok h).1
      have c3 := check_call d.ty
      unfold errD at herr hfin
      obtain ⟨s, ⟨a, bs⟩, ⟨k, name, arg, num, tk, tks, uk, uks, label, place, ks⟩, pl⟩ := d
      simp only at herr hfin c1 c2 c3
      generalize tmcheck (Tm.node k name arg num tk tks uk uks label place ks) = q1 at *
      generalize tmhas 17 (Tm.node k name arg num tk tks uk uks label place ks) = q2 at *
      generalize tcheck (Ty.node a bs) = q3 at *
      by_cases hq : q1 = 0
      · subst hq
        conv => whnf
        repeat' first | refine AW.seq ?_ | refine AW.block ?_ | (refine (_root_.id : AW _ _ _ (.region 8 _ true) _ _ → _) ?_; refine AW.drawT (id := 8) tab_ok mixed [0, 1, 2, 3, 4, 5, 6] oTDf1_11_8 (by kernel_rfl) ?_; conv => whnf) | (refine Fork.mk ?_ ?_ <;> conv => whnf) | ((first | refine AW.region tab_ok ?_ | refine AW.cond ?_ | refine AW.skip ?_ | refine AW.ret ?_ | refine AW.exit ?_); conv => whnf) | ((first | refine (c1).mono ?_ | refine ((c2 rfl).args (.cons (.rp 0 [_, _, _, _, _, _, _, _, _, _, _] _) (.cons (.same _) .nil))).mono ?_ | refine (c3).mono ?_); rintro _ _ ⟨rfl, rfl⟩; conv => whnf) | ((first | refine And.intro (@rfl Val _) ?_ | refine And.intro (by decide) ?_ | refine cs (fun _ => ?_) (fun _ => ?_)) <;> conv => whnf)
        · rename_i h
          have h : q2 = true := by simpa using h
          rw [hfin (by simp [h]) he]
          simp only [h, if_true, ne_eq, not_true, if_false]
          exact ⟨rfl, rfl⟩
        · rename_i h2 h
          have h2 : q2 = false := by simpa using h2
          have h : q3 ≠ 0 := bne_iff_ne.1 h
          have hx : (if (0 : Int) ≠ 0 then 0 else if q2 = true then 30 else q3) = q3 := by simp [h2]
          rw [hx] at hfin
          rw [hfin h he]
          refine ⟨?_, rfl⟩
          simp only [errV, if_neg h]
          rfl
        · rename_i h2 h
          have h2 : q2 = false := by simpa using h2
          have h : q3 = 0 := by simpa using h
          rw [wrap64 (x := (i : Int) + 1) (by omega) (by omega)]
          exact ⟨⟨i + 1, hlt, fun j hj => by
            by_cases e : j = i
            · subst e; rw [herr]; simp [h2, h]
            · exact he j (by omega)⟩, ⟨⟨rfl, rfl, rfl, rfl, rfl, rfl, trivial⟩, rfl, rfl, ⟨_, rfl⟩, rfl⟩, show l.length - (i + 1) < l.length - i by omega⟩
      · conv => whnf
        repeat' first | ((refine cs (fun h => absurd (of_decide_eq_true h) hq) (fun _ => ?_); conv => whnf)) | ((refine cs (fun h => absurd (eq_of_beq h) hq) (fun _ => ?_); conv => whnf)) | refine AW.seq ?_ | refine AW.block ?_ | (refine (_root_.id : AW _ _ _ (.region 8 _ true) _ _ → _) ?_; refine AW.drawT (id := 8) tab_ok mixed [0, 1, 2, 3, 4, 5, 6] oTDf1_11_8 (by kernel_rfl) ?_; conv => whnf) | (refine Fork.mk ?_ ?_ <;> conv => whnf) | ((first | refine AW.region tab_ok ?_ | refine AW.cond ?_ | refine AW.skip ?_ | refine AW.ret ?_ | refine AW.exit ?_); conv => whnf) | (refine (c1).mono ?_; rintro _ _ ⟨rfl, rfl⟩; conv => whnf) | ((first | refine And.intro (@rfl Val _) ?_ | refine And.intro (by decide) ?_ | refine cs (fun _ => ?_) (fun _ => ?_)) <;> conv => whnf)
        · have hx : (if q1 ≠ 0 then q1 else if q2 = true then 30 else q3) = q1 := by simp [hq]
          rw [hx] at hfin
          rw [hfin hq he]
          refine ⟨?_, rfl⟩
          simp only [errV, if_neg hq]
          rfl
        · rename_i h
          exact absurd (by simpa using h) hq
    · rename_i h2 hz
      have hz : nix main 0 l = 0 := by rw [tval_hv, List.take_length] at hz; exact eq_of_beq hz
      simp only [drows_len] at h2
      have h2 := of_decide_eq_false h2
      rw [soundF_end hlen hb (fun j hj => he j (by omega)), if_pos hz]
      exact ⟨rfl, rfl⟩
    · rename_i h2 hz
      have hz : ¬ nix main 0 l = 0 := by rw [tval_hv, List.take_length] at hz; exact beq_eq_false_iff_ne.1 hz
      simp only [drows_len] at h2
      have h2 := of_decide_eq_false h2
      rw [soundF_end hlen hb (fun j hj => he j (by omega)), if_neg hz, tval_hv, List.take_length]
      obtain ⟨j, e, h3, _, h4, _⟩ := nix_pos hz
      have := (List.getElem?_eq_some_iff.1 h3).1
      rw [h4, wrap64 (by omega) (by omega)]
      exact ⟨rfl, rfl⟩
end Go.Proofs.YthmbncehoblgpaaDoor.E

/- A function of Go's library laid at this translation: its code is the one that the library's contract speaks of. No conditions. -/
namespace Go.Proofs.YthmbncehoblgpaaDoor.E
open Go.Shelf
def lays190_ren : Go.Shelf.Ren := ⟨fun | 190 => 57 | 125 => 91 | 258 => 90 | 128 => 113 | 129 => 114 | 302 => 104 | 303 => 105 | 304 => 106 | 305 => 107 | 306 => 108 | 307 => 109 | 308 => 110 | 309 => 111 | 310 => 112 | 333 => 124 | 329 => 125 | 330 => 126 | 334 => 127 | 335 => 128 | 336 => 129 | 344 => 138 | n => n, fun | 31 => 34 | 9 => 9 | 3 => 3 | 46 => 147 | 0 => 0 | 51 => 161 | 53 => 163 | 4 => 4 | 183 => 153 | 182 => 152 | 131 => 158 | 5 => 5 | 218 => 171 | 222 => 175 | 228 => 183 | 229 => 184 | n => n, fun n => n⟩
set_option maxRecDepth 100000 in
theorem lays190 : Go.Proofs.Lays.n190 Tryd.prog lays190_ren where
  mixed := by kernel_rfl
  f125 := Tryd.func91.trans (congrArg some (by kernel_rfl))
  f128 := Tryd.func113.trans (congrArg some (by kernel_rfl))
  f129 := Tryd.func114.trans (congrArg some (by kernel_rfl))
  f190 := Tryd.func57.trans (congrArg some (by kernel_rfl))
  f258 := Tryd.func90.trans (congrArg some (by kernel_rfl))
  f302 := Tryd.func104.trans (congrArg some (by kernel_rfl))
  f303 := Tryd.func105.trans (congrArg some (by kernel_rfl))
  f304 := Tryd.func106.trans (congrArg some (by kernel_rfl))
  f305 := Tryd.func107.trans (congrArg some (by kernel_rfl))
  f306 := Tryd.func108.trans (congrArg some (by kernel_rfl))
  f307 := Tryd.func109.trans (congrArg some (by kernel_rfl))
  f308 := Tryd.func110.trans (congrArg some (by kernel_rfl))
  f309 := Tryd.func111.trans (congrArg some (by kernel_rfl))
  f310 := Tryd.func112.trans (congrArg some (by kernel_rfl))
  f329 := Tryd.func125.trans (congrArg some (by kernel_rfl))
  f330 := Tryd.func126.trans (congrArg some (by kernel_rfl))
  f333 := Tryd.func124.trans (congrArg some (by kernel_rfl))
  f334 := Tryd.func127.trans (congrArg some (by kernel_rfl))
  f335 := Tryd.func128.trans (congrArg some (by kernel_rfl))
  f336 := Tryd.func129.trans (congrArg some (by kernel_rfl))
  f344 := Tryd.func138.trans (congrArg some (by kernel_rfl))
  t0 := Tryd.underlying0
  a0 := Tryd.isAgg0
  z0 := Tryd.sizeOf0
  v0 := Tryd.zeroValue0
  t3 := Tryd.underlying3
  a3 := Tryd.isAgg3
  z3 := Tryd.sizeOf3
  v3 := Tryd.zeroValue3
  t4 := Tryd.underlying4
  a4 := Tryd.isAgg4
  z4 := Tryd.sizeOf4
  v4 := Tryd.zeroValue4
  t5 := Tryd.underlying5
  a5 := Tryd.isAgg5
  z5 := Tryd.sizeOf5
  v5 := Tryd.zeroValue5
  t9 := Tryd.underlying9
  a9 := Tryd.isAgg9
  z9 := Tryd.sizeOf9
  v9 := Tryd.zeroValue9
  t31 := Tryd.underlying34
  a31 := Tryd.isAgg34
  z31 := Tryd.sizeOf34
  v31 := Tryd.zeroValue34
  t46 := Tryd.underlying147
  a46 := Tryd.isAgg147
  z46 := Tryd.sizeOf147
  v46 := Tryd.zeroValue147
  t51 := Tryd.underlying161
  a51 := Tryd.isAgg161
  z51 := Tryd.sizeOf161
  v51 := Tryd.zeroValue161
  t53 := Tryd.underlying163
  a53 := Tryd.isAgg163
  z53 := Tryd.sizeOf163
  v53 := Tryd.zeroValue163
  t131 := Tryd.underlying158
  a131 := Tryd.isAgg158
  z131 := Tryd.sizeOf158
  v131 := Tryd.zeroValue158
  t182 := Tryd.underlying152
  a182 := Tryd.isAgg152
  z182 := Tryd.sizeOf152
  v182 := Tryd.zeroValue152
  t183 := Tryd.underlying153
  a183 := Tryd.isAgg153
  z183 := Tryd.sizeOf153
  v183 := Tryd.zeroValue153
  t218 := Tryd.underlying171
  a218 := Tryd.isAgg171
  z218 := Tryd.sizeOf171
  v218 := Tryd.zeroValue171
  t222 := Tryd.underlying175
  a222 := Tryd.isAgg175
  z222 := Tryd.sizeOf175
  v222 := Tryd.zeroValue175
  t228 := Tryd.underlying183
  a228 := Tryd.isAgg183
  z228 := Tryd.sizeOf183
  v228 := Tryd.zeroValue183
  t229 := Tryd.underlying184
  a229 := Tryd.isAgg184
  z229 := Tryd.sizeOf184
  v229 := Tryd.zeroValue184
end Go.Proofs.YthmbncehoblgpaaDoor.E

/- slices.Sort at an own row of strings: the library's contract in the engine's words. No conditions. -/
set_option linter.unusedVariables false
set_option linter.unusedSimpArgs false
namespace Go.Proofs.YthmbncehoblgpaaDoor.E
open Go Go.Sort Go.Shelf

/-- A list of strings, sorted. -/
def bsort (l : List ByteArray) : List ByteArray := ((l.map (·.data.toList)).mergeSort fun x y => decide (x ≤ y)).map fun x => ⟨x.toArray⟩
theorem bsort_len (l : List ByteArray) : (bsort l).length = l.length := by simp [bsort]
def strs (l : List ByteArray) : List (List DV) := l.map fun s => [.str s]
theorem strs_len (l : List ByteArray) : (strs l).length = l.length := by simp [strs]
set_option maxRecDepth 10000 in
set_option maxHeartbeats 1000000 in
theorem sort_call (e : Nat) (names : List ByteArray) (hn : names.length < 4611686018427387904) :
    ACall Tryd.prog 57 [.c (.own 0 names.length)] [.row e 1 (strs names)] (fun o σ => o = .ret (.tup []) ∧ σ = [.row e 1 (strs (bsort names))]) where
  out := fun w C vs hI hv => by
    have hl : vs.size = 1 := by have := hv.1; simpa using this
    obtain ⟨u, rfl⟩ : ∃ u, vs = #[u] := by
      match vs, hl with
      | ⟨[u]⟩, _ => exact ⟨u, rfl⟩
    have hx := c_of (hv.2 0 u _ rfl rfl)
    cases hx with
    | own _ _ en he hr hle A c hval =>
    obtain ⟨g1, g2, g3, g4, g5, xs, g6, g7⟩ := hI.ok 0 _ en rfl he
    have hval := hval (by rw [g2, strs_len])
    rw [strs_len] at g6
    rcases g6.2 with ⟨q1, q2⟩ | ⟨g, cap, cur, q1, q0, q3, q4, q5, q6, q7⟩
    · have : names = [] := List.eq_nil_of_length_eq_zero q2
      subst this
      rw [q1] at hval
      cases hval
      have hcon := Any.slices_Sort_string_none lays190 none 0 w
      change Calls Tryd.prog 57 _ _ _ at hcon
      refine hcon.mono fun e' w' ⟨h1, h2⟩ => ?_
      subst h1; subst h2
      exact ⟨_, _, C, ⟨rfl, by simp [bsort]⟩, hI, .refl _ _ _, _, rfl, .tup _ _ rfl (fun i v x h1 h2 => by simp at h1)⟩
    · rw [q1] at hval
      cases hval
      have hxs : xs = (names.map (·.data.toList)).map encStr := by
        rw [Lib.map_encStr]
        have hxl := g6.1
        refine List.ext_getElem (by simp at hxl ⊢; omega) fun j h1 h2 => ?_
        have hj : j < names.length := by simpa using h2
        obtain ⟨v, p1, p2⟩ := g7 j 0 [.str names[j]] (.str names[j]) (by simp [strs, hj]) rfl
        simp only [Nat.mul_one, Nat.add_zero] at p1
        rw [List.getElem?_eq_getElem h1] at p1
        cases p1
        rw [List.getElem_map]
        generalize xs[j] = v at p2
        cases p2
        rfl
      have hH := holds_of_block (ss := names.map (·.data.toList)) q3 (by rw [← hxs]; simpa using q7)
      have hlt : g < w.heap.size := (Array.getElem?_eq_some_iff.1 q3).1
      have hcon := Any.slices_Sort_string lays190 g 0 c (names.map (·.data.toList)) w hH hlt (by simpa using hn)
      change Calls Tryd.prog 57 _ _ _ at hcon
      rw [List.length_map] at hcon
      refine hcon.mono fun e' w' ⟨h1, n, os, h2⟩ => ?_
      subst h1; subst h2
      have hgb := grownBy_sorted (w := w) (g := g) (n := n) (os := os) ((names.map (·.data.toList)).mergeSort fun x y => decide (x ≤ y)).toArray
      have hb : en.b = some g := by rw [g3, q1]; rfl
      have hown := ownsRow_sorted (w := w) (base := 0) (n := n) (os := os) (ss := names.map (·.data.toList)) (ts := (names.map (·.data.toList)).mergeSort fun x y => decide (x ≤ y)) (by simp) (Nat.zero_le _) q3 (by simpa using q4) q5 q6
      generalize grow (putRow encStr (Sort.ahead w n) g 0 ((names.map (·.data.toList)).mergeSort fun x y => decide (x ≤ y)).toArray) os = W at hgb hown ⊢
      have hold : ∀ b, b < w.heap.size → en.b ≠ some b → W.heap[b]? = w.heap[b]? := fun b hb' hne => hgb.block b hb' (fun e1 => hne (by rw [hb, e1]))
      obtain ⟨u1, u2⟩ := hI.upd (i := 0) (o := .row e 1 (strs names)) (w' := W) (o' := .row e 1 (strs (bsort names))) (e' := en) rfl he rfl hgb.size (.refl en) hold (fun b' hb' => .inl hb')
        (fun hc => ⟨hr, by rw [g2, strs_len, strs_len, bsort_len], g3, g4, fun row hrow => by
            simp only [strs, List.mem_map] at hrow
            obtain ⟨s, _, rfl⟩ := hrow
            rfl, _, by rw [strs_len, bsort_len, q1]; simpa using hown, fun j i row x hj hi => by
          simp only [strs, List.getElem?_map, bsort] at hj
          cases hs : ((names.map (·.data.toList)).mergeSort fun x y => decide (x ≤ y))[j]? with
          | none => rw [hs] at hj; cases hj
          | some t =>
            rw [hs] at hj
            cases hj
            cases i with
            | succ i => simp at hi
            | zero =>
              cases hi
              exact ⟨encStr t, by simp [hs], .str _⟩⟩)
      exact ⟨_, _, _, ⟨rfl, rfl⟩, u2, Ext.upd (i := 0) (o := .row e 1 (strs names)) hI rfl he rfl hgb.os hgb.tape hgb.output hgb.size u1 hold (fun b' hb' => .inl hb'), _, rfl, .tup _ _ rfl (fun i v x h1 h2 => by simp at h1)⟩
end Go.Proofs.YthmbncehoblgpaaDoor.E

/- Free names: terms.Free. No conditions. -/
set_option linter.unusedVariables false
set_option linter.unusedSimpArgs false
namespace Go.Proofs.YthmbncehoblgpaaDoor.E
open Go

theorem encL_nil : encL [] = [] := by unfold encL; rfl
theorem encL_mem {y : Nat × DV × DV} {l : TL} : y ∈ encL l ↔ ∃ x ∈ l, (x.1, DV.str x.2.1, DV.int .i64 x.2.2) = y := by unfold encL; simp
theorem encL_map1 (l : TL) : (encL l).map (·.1) = l.map (·.1) := by unfold encL; simp
/-- A map's entries: born once, ahead of the clock; keys once. -/
structure WfL (m : Nat × TL) : Prop where
  lt : ∀ x ∈ m.2, x.1 < m.1
  born : (m.2.map (·.1)).Nodup
  keys : (m.2.map (·.2.1)).Nodup
theorem tget_some {s : ByteArray} : ∀ {l : TL} {i j : Nat} {v : Int}, tget s l i = some (j, v) → ∃ k, j = i + k ∧ ∃ c, l[k]? = some (c, s, v)
  | (c, k, u) :: l, i, j, v, h => by
    simp only [tget] at h
    split at h
    · rename_i e
      simp only [Option.some.injEq, Prod.mk.injEq] at h
      obtain ⟨rfl, rfl⟩ := h
      exact ⟨0, rfl, c, by simp [e]⟩
    · obtain ⟨n, rfl, c', h'⟩ := tget_some h
      exact ⟨n + 1, by omega, c', by simpa using h'⟩
theorem tget_none {s : ByteArray} : ∀ {l : TL} {i : Nat}, tget s l i = none ↔ s ∉ l.map (·.2.1)
  | [], i => by simp [tget]
  | (c, k, u) :: l, i => by
    simp only [tget, List.map_cons, List.mem_cons, not_or]
    split
    · rename_i e; simp [e]
    · rename_i e
      rw [tget_none (l := l) (i := i + 1)]
      exact ⟨fun h => ⟨e, h⟩, fun h => h.2⟩
theorem tset_born : ∀ (l : TL) (j : Nat) (v : Int), (tset j v l).map (·.1) = l.map (·.1)
  | [], j, v => by simp [tset]
  | (c, k, u) :: l, 0, v => rfl
  | (c, k, u) :: l, j + 1, v => by simp [tset, tset_born l j v]
theorem tset_keys : ∀ (l : TL) (j : Nat) (v : Int), (tset j v l).map (·.2.1) = l.map (·.2.1)
  | [], j, v => by simp [tset]
  | (c, k, u) :: l, 0, v => rfl
  | (c, k, u) :: l, j + 1, v => by simp [tset, tset_keys l j v]
theorem tput_wf {s : ByteArray} {v : Int} {m : Nat × TL} (h : WfL m) : WfL (tput s v m) := by
  unfold tput
  cases hg : tget s m.2 0 with
  | some x =>
    refine ⟨fun x hx => ?_, by simpa [tset_born] using h.born, by simpa [tset_keys] using h.keys⟩
    have : x.1 ∈ (tset _ v m.2).map (·.1) := List.mem_map_of_mem hx
    rw [tset_born] at this
    obtain ⟨y, hy, e⟩ := List.mem_map.1 this
    rw [← e]; exact h.lt y hy
  | none =>
    have hn := tget_none.1 hg
    refine ⟨fun x hx => ?_, ?_, ?_⟩
    · simp only [List.mem_append, List.mem_singleton] at hx
      rcases hx with hx | rfl
      · have := h.lt x hx; simp; omega
      · simp
    · simp only [List.map_append, List.map_cons, List.map_nil]
      refine List.nodup_append.2 ⟨h.born, by simp, fun a ha b hb => ?_⟩
      simp only [List.mem_singleton] at hb
      subst hb
      obtain ⟨y, hy, e⟩ := List.mem_map.1 ha
      have := h.lt y hy
      omega
    · simp only [List.map_append, List.map_cons, List.map_nil]
      refine List.nodup_append.2 ⟨h.keys, by simp, fun a ha b hb => ?_⟩
      simp only [List.mem_singleton] at hb
      subst hb
      exact fun e => hn (e ▸ ha)
theorem tdel_wf {s : ByteArray} {m : Nat × TL} (h : WfL m) : WfL (m.1, tdel s m.2) := by
  unfold tdel
  cases hg : tget s m.2 0 with
  | none => exact h
  | some x =>
    refine ⟨fun x hx => h.lt x (List.mem_of_mem_eraseIdx hx), ?_, ?_⟩
    · rw [ChangeMaps.map_eraseIdx]
      exact h.born.sublist (List.eraseIdx_sublist _ _)
    · rw [ChangeMaps.map_eraseIdx]
      exact h.keys.sublist (List.eraseIdx_sublist _ _)
def WfF (m : FM) : Prop := WfL m.1 ∧ WfL m.2
theorem win_wf : ∀ (w : List ByteArray) {m : FM}, WfF m → WfF (win w m)
  | [], _, h => h
  | [s], _, h => ⟨tput_wf h.1, h.2⟩
  | s :: a :: _, _, h => ⟨tput_wf (tput_wf h.1), h.2⟩
theorem fout_wf {s : ByteArray} {m : FM} (h : WfF m) : WfF (fout s m) := by
  unfold fout
  have h1 : WfL (fdec s m).1 := tput_wf h.1
  split
  · exact ⟨tdel_wf h1, h.2⟩
  · exact ⟨h1, h.2⟩
theorem wout_wf : ∀ (w : List ByteArray) {m : FM}, WfF m → WfF (wout w m)
  | [], _, h => h
  | [s], _, h => fout_wf h
  | s :: a :: _, _, h => ⟨tput_wf (fout_wf h).1, (fout_wf (s := a) h).2⟩
theorem fterm_wf (t : Tm) : ∀ {m : FM}, WfF m → WfF (fterm t m) := by
  induction t using Tm.ind with
  | _ k name arg num tk tks uk uks label place ks ih =>
  intro m h
  simp only [fterm]
  split
  · split
    · exact ⟨h.1, tput_wf h.2⟩
    · exact h
  · have : ∀ (ks : List Tm), (∀ t ∈ ks, ∀ {m : FM}, WfF m → WfF (fterm t m)) → ∀ (w : List (List ByteArray)) {m : FM}, WfF m → WfF (fterms ks w m) := by
      intro ks
      induction ks with
      | nil => intro _ w m h; exact h
      | cons t l il =>
        intro hk w m h
        simp only [fterms]
        exact il (fun t ht => hk t (List.mem_cons_of_mem _ ht)) _ (wout_wf _ (hk t (by simp) (win_wf _ h)))
    exact this ks (fun t ht => ih t ht) _ h

/-- The names that the program tells. -/
def freeR (t : Tm) : List ByteArray := (fterm t ((0, []), (0, []))).2.2.map (·.2.1)
def bytesLe (x y : ByteArray) : Prop := x.data.toList ≤ y.data.toList
theorem bsort_perm (l : List ByteArray) : (bsort l).Perm l := by
  have h := (List.mergeSort_perm (l.map (·.data.toList)) fun x y => decide (x ≤ y)).map fun x : List UInt8 => (⟨x.toArray⟩ : ByteArray)
  rw [List.map_map] at h
  have e : l.map ((fun x : List UInt8 => (⟨x.toArray⟩ : ByteArray)) ∘ fun s : ByteArray => s.data.toList) = l := by
    conv => rhs; rw [← List.map_id l]
    refine List.map_congr_left fun s _ => ?_
    rfl
  rw [e] at h
  exact h
theorem bsort_sorted (l : List ByteArray) : (bsort l).Pairwise bytesLe := by
  have h := List.pairwise_mergeSort (le := fun x y : List UInt8 => decide (x ≤ y)) (fun a b c h1 h2 => by simp at *; exact List.le_trans h1 h2) (fun a b => by simp; exact List.le_total a b) (l.map (·.data.toList))
  unfold bsort
  rw [List.pairwise_map]
  exact h.imp fun h => by simpa [bytesLe] using h
theorem sorted_unique {a b : List ByteArray} (h1 : a.Pairwise bytesLe) (h2 : b.Pairwise bytesLe) (h : a.Perm b) : a = b :=
  List.Perm.eq_of_pairwise (fun x y _ _ h h' => by
    have : x.data.toList = y.data.toList := List.le_antisymm h h'
    cases x; cases y
    simp at this
    simp [this]) h1 h2 h
theorem bsort_of_perm {a b : List ByteArray} (h : a.Perm b) : bsort a = bsort b :=
  sorted_unique (bsort_sorted a) (bsort_sorted b) ((bsort_perm a).trans (h.trans (bsort_perm b).symm))
def freeS (t : Tm) : List ByteArray := if tmcheck t = 0 then bsort (freeR t) else []

theorem nodup_of_map {α β : Type} (f : α → β) : ∀ {l : List α}, (l.map f).Nodup → l.Nodup
  | [], _ => List.nodup_nil
  | a :: l, h => by
    simp only [List.map_cons, List.nodup_cons] at h
    exact List.nodup_cons.2 ⟨fun hm => h.1 (List.mem_map_of_mem hm), nodup_of_map f h.2⟩
theorem inj_of_map {α β : Type} (f : α → β) : ∀ {l : List α}, (l.map f).Nodup → ∀ x ∈ l, ∀ y ∈ l, f x = f y → x = y
  | [], _, x, hx, _, _, _ => by cases hx
  | z :: l, hn, x, hx, y, hy, e => by
    simp only [List.map_cons, List.nodup_cons] at hn
    rcases List.mem_cons.1 hx with h1 | h1 <;> rcases List.mem_cons.1 hy with h2 | h2
    · rw [h1, h2]
    · exact absurd (show f z ∈ l.map f by rw [← h1, e]; exact List.mem_map_of_mem h2) hn.1
    · exact absurd (show f z ∈ l.map f by rw [← h2, ← e]; exact List.mem_map_of_mem h1) hn.1
    · exact inj_of_map f hn.2 x h1 y h2 e
theorem tset_len : ∀ (l : TL) (j : Nat) (v : Int), (tset j v l).length = l.length := fun l j v => by
  have := congrArg List.length (tset_born l j v); simpa using this
theorem tput_len (s : ByteArray) (v : Int) (m : Nat × TL) : (tput s v m).2.length ≤ m.2.length + 1 := by
  unfold tput
  cases tget s m.2 0 with
  | some x => simp [tset_len]
  | none => simp
theorem win_2 : ∀ (w : List ByteArray) (m : FM), (win w m).2 = m.2
  | [], _ => rfl
  | [s], _ => rfl
  | s :: a :: _, _ => rfl
theorem fout_2 (s : ByteArray) (m : FM) : (fout s m).2 = m.2 := by unfold fout; split <;> rfl
theorem wout_2 : ∀ (w : List ByteArray) (m : FM), (wout w m).2 = m.2
  | [], _ => rfl
  | [s], m => fout_2 s m
  | s :: a :: _, m => by show (fout a m).2 = m.2; exact fout_2 a m
theorem fterm_len (t : Tm) : ∀ m : FM, (fterm t m).2.2.length ≤ m.2.2.length + tmN t := by
  induction t using Tm.ind with
  | _ k name arg num tk tks uk uks label place ks ih =>
  intro m
  simp only [fterm, tmN]
  split
  · split
    · have := tput_len name 1 m.2
      simp only at this ⊢
      omega
    · omega
  · have : ∀ (ks : List Tm), (∀ t ∈ ks, ∀ m : FM, (fterm t m).2.2.length ≤ m.2.2.length + tmN t) → ∀ (w : List (List ByteArray)) (m : FM), (fterms ks w m).2.2.length ≤ m.2.2.length + tmNL ks := by
      intro ks
      induction ks with
      | nil => intro _ w m; simp [fterms]
      | cons t l il =>
        intro hk w m
        simp only [fterms, tmNL]
        have h1 := il (fun t ht => hk t (List.mem_cons_of_mem _ ht)) w.tail (wout (w.headD []) (fterm t (win (w.headD []) m)))
        have h2 := hk t (by simp) (win (w.headD []) m)
        rw [wout_2] at h1
        rw [win_2] at h2
        omega
    have := this ks (fun t ht => ih t ht) (wsK k name arg) m
    omega

/-- What a range over a map has met. -/
structure Seen (E : TL) where
  p : List (Nat × ByteArray × Int)
  sub : ∀ x ∈ p, x ∈ E
  nd : (p.map (·.1)).Nodup
set_option maxRecDepth 10000 in
theorem tFree_call (t : Tm) : ACall Tryd.prog 29 [t.val] [] (fun o σ => o = .ret (.c (.d (.sl 0 1 (strs (freeS t))))) ∧ σ = []) := by
  have c1 := tmCheck_call t
  have c2 : tmcheck t = 0 → TermC t := fun h => termF_call t (tmcheck_ok h).2 (tmcheck_ok h).1
  have hb : WfF (fterm t ((0, []), (0, []))) := fterm_wf t ⟨⟨by simp, by simp, by simp⟩, ⟨by simp, by simp, by simp⟩⟩
  have hlen := fterm_len t ((0, []), (0, []))
  have hN : tmcheck t = 0 → tmN t ≤ 8192 := fun h => (tmcheck_ok h).1
  unfold freeS freeR
  unfold TermC at c2
  generalize hF : fterm t = F at *
  generalize tmN t = nn at *
  generalize tmcheck t = cc at *
  obtain ⟨k, name, arg, num, tk, tks, uk, uks, label, place, ks⟩ := t
  refine ACall.body tab_ok (ρ := 0) (N := 31) Tryd.func29 rfl rfl rfl rfl rfl ?_
  repeat' first | refine AW.seq ?_ | refine AW.block ?_ | ((first | refine AW.region tab_ok ?_ | refine AW.cond ?_ | refine AW.skip ?_ | refine AW.ret ?_ | refine AW.exit ?_); conv => whnf) | (refine (c1).mono ?_; rintro _ _ ⟨rfl, rfl⟩; conv => whnf) | ((first | refine And.intro (@rfl Val _) ?_ | refine And.intro (by decide) ?_ | refine cs (fun _ => ?_) (fun _ => ?_)) <;> conv => whnf)
  · rename_i h
    rw [if_neg (by simpa using h)]
    exact ⟨rfl, rfl⟩
  · rename_i h
    rw [if_pos (by simpa using h)]
    have c2 := c2 (by simpa using h) 0 [] 0 []
    have hN := hN (by simpa using h)
    rw [encL_nil] at c2
    generalize F ((0, []), (0, [])) = M at *
    obtain ⟨⟨ck, bl⟩, ⟨cf, fl⟩⟩ := M
    simp only [List.length_nil, Nat.zero_add] at hlen
    unfold fobj at c2
    repeat' first | refine AW.seq ?_ | refine AW.block ?_ | ((first | refine AW.region tab_ok ?_ | refine AW.cond ?_ | refine AW.skip ?_ | refine AW.ret ?_ | refine AW.exit ?_); conv => whnf) | (refine (c2).mono ?_; rintro _ _ ⟨rfl, rfl⟩; conv => whnf) | ((first | refine And.intro (@rfl Val _) ?_ | refine And.intro (by decide) ?_ | refine cs (fun _ => ?_) (fun _ => ?_)) <;> conv => whnf)
    refine AW.ghostE 9 1 4 (by decide) rfl ?_
    refine AW.loop (ι := Seen fl) (fun x => ⟨31, [(19, .c (.ptr 4 0)), (4, .c (.own 5 (strs (x.p.map (·.2.1))).length))],
        [.frz 0 [.int .i8 k, .str name, .str arg, .int .i64 num, .int .i8 tk, .sl 0 2 (Ty.rows tks), .int .i8 uk, .sl 0 2 (Ty.rows uks), .int .i64 label, .int .i64 place, .sl 0 11 (Tm.rows ks)], .mp .str ck (encL bl), .mp .str cf (encL fl), .var [.mp 1, .mp 2], .it (.mp 2) cf (x.p.map (·.1)) cf, .row 9 1 (strs (x.p.map (·.2.1)))], []⟩)
      (fun x => fl.length - x.p.length) ⟨[], by simp, by simp⟩ 6 (fun _ => rfl) (Nat.le_of_ble_eq_true rfl) ⟨⟨rfl, rfl, trivial⟩, rfl, rfl, ⟨[], rfl⟩, rfl⟩ (fun x => ?_)
    obtain ⟨p, hsub, hnd⟩ := x
    have hpl : p.length ≤ fl.length := List.Nodup.length_le_of_subset (nodup_of_map _ hnd) hsub
    repeat' first | refine AW.seq ?_ | refine AW.block ?_ | ((first | refine AW.region tab_ok ?_ | refine AW.cond ?_ | refine AW.skip ?_ | refine AW.ret ?_ | refine AW.exit ?_); conv => whnf) | ((first | refine And.intro (@rfl Val _) ?_ | refine And.intro (by decide) ?_ | refine cs (fun _ => ?_) (fun _ => ?_)) <;> conv => whnf)
    refine ⟨⟨fun y hy => ?_, Nat.le_refl _⟩, fun hall => ?_, fun y hy hns => ?_⟩
    · obtain ⟨x, hx, rfl⟩ := encL_mem.1 hy
      exact hb.2.lt x hx
    · have hperm : (p.map (·.1)).Perm (fl.map (·.1)) := by
        refine (List.perm_ext_iff_of_nodup hnd hb.2.born).2 fun a => ⟨fun h => ?_, fun h => ?_⟩
        · obtain ⟨x, hx, rfl⟩ := List.mem_map.1 h
          exact List.mem_map_of_mem (hsub x hx)
        · obtain ⟨x, hx, rfl⟩ := List.mem_map.1 h
          exact hall _ (encL_mem.2 ⟨x, hx, rfl⟩)
      have hpe : p.Perm fl := by
        refine (List.perm_ext_iff_of_nodup (nodup_of_map _ hnd) (nodup_of_map _ hb.2.born)).2 fun a => ⟨hsub a, fun h => ?_⟩
        have : a.1 ∈ p.map (·.1) := hall _ (encL_mem.2 ⟨a, h, rfl⟩)
        obtain ⟨x, hx, e⟩ := List.mem_map.1 this
        rw [← inj_of_map _ hb.2.born x (hsub x hx) a h e]
        exact hx
      have hs : bsort (p.map (·.2.1)) = bsort (fl.map (·.2.1)) := bsort_of_perm (hpe.map _)
      have hsc := sort_call 9 (p.map (·.2.1)) (by simp; omega)
      rw [← strs_len] at hsc
      conv => whnf
      repeat' first | refine AW.seq ?_ | refine AW.block ?_ | ((first | refine AW.region tab_ok ?_ | refine AW.cond ?_ | refine AW.skip ?_ | refine AW.ret ?_ | refine AW.exit ?_); conv => whnf) | (refine (hsc).mono ?_; rintro _ _ ⟨rfl, rfl⟩; conv => whnf) | ((first | refine And.intro (@rfl Val _) ?_ | refine And.intro (by decide) ?_ | refine cs (fun _ => ?_) (fun _ => ?_)) <;> conv => whnf)
      rw [← hs]
      refine ⟨by simp only [strs_len, bsort_len], ?_⟩
      conv => whnf
      exact ⟨rfl, rfl⟩
    · obtain ⟨x, hx, rfl⟩ := encL_mem.1 hy
      conv => whnf
      repeat' first | refine AW.seq ?_ | refine AW.block ?_ | ((first | refine AW.region tab_ok ?_ | refine AW.cond ?_ | refine AW.skip ?_ | refine AW.ret ?_ | refine AW.exit ?_); conv => whnf) | ((first | refine And.intro (@rfl Val _) ?_ | refine And.intro (by decide) ?_ | refine cs (fun _ => ?_) (fun _ => ?_)) <;> conv => whnf)
      refine ⟨_, p.map (·.1), hy, rfl, rfl, by rw [encL_map1]; exact hb.2.born, ?_⟩
      conv => whnf
      repeat' first | refine AW.seq ?_ | refine AW.block ?_ | ((first | refine AW.region tab_ok ?_ | refine AW.cond ?_ | refine AW.skip ?_ | refine AW.ret ?_ | refine AW.exit ?_); conv => whnf) | ((first | refine And.intro (@rfl Val _) ?_ | refine And.intro (by decide) ?_ | refine cs (fun _ => ?_) (fun _ => ?_)) <;> conv => whnf)
      have hxp : x.1 ∉ p.map (·.1) := hns
      have hpl1 : (p ++ [x]).length ≤ fl.length := List.Nodup.length_le_of_subset (nodup_of_map (·.1) (by
        simp only [List.map_append, List.map_cons, List.map_nil]
        exact List.nodup_append.2 ⟨hnd, by simp, fun a ha b hb e => hxp (by simp at hb; rw [← hb, ← e]; exact ha)⟩)) (fun y hy => by
          rcases List.mem_append.1 hy with h | h
          · exact hsub y h
          · simp at h; rw [h]; exact hx)
      have es : strs (p.map (·.2.1)) ++ [[.str x.2.1]] = strs ((p ++ [x]).map (·.2.1)) := by simp [strs]
      simp only [List.length_append, List.length_cons, List.length_nil] at hpl1
      refine ⟨⟨rfl, ?_, ?_⟩, ?_⟩
      · simp only [strs_len, List.length_map, List.length_cons, List.length_nil]; omega
      · simp only [strs_len, List.length_map, List.length_cons, List.length_nil]; omega
      conv => whnf
      repeat' first | refine AW.seq ?_ | refine AW.block ?_ | ((first | refine AW.region tab_ok ?_ | refine AW.cond ?_ | refine AW.skip ?_ | refine AW.ret ?_ | refine AW.exit ?_); conv => whnf) | ((first | refine And.intro (@rfl Val _) ?_ | refine And.intro (by decide) ?_ | refine cs (fun _ => ?_) (fun _ => ?_)) <;> conv => whnf)
      have el : (strs (p.map (·.2.1))).length + [[DV.str x.2.1]].length = (strs ((p ++ [x]).map (·.2.1))).length := by rw [← es, List.length_append]
      simp only at el es
      rw [el, es]
      refine ⟨⟨p ++ [x], fun y hy => ?_, ?_⟩, ⟨⟨rfl, rfl, trivial⟩, rfl, rfl, ⟨[], ?_⟩, rfl⟩, ?_⟩
      · rcases List.mem_append.1 hy with h | h
        · exact hsub y h
        · simp at h; rw [h]; exact hx
      · simp only [List.map_append, List.map_cons, List.map_nil]
        exact List.nodup_append.2 ⟨hnd, by simp, fun a ha b hb e => hxp (by simp at hb; rw [← hb, ← e]; exact ha)⟩
      · simp only [List.map_append, List.map_cons, List.map_nil]
        rfl
      · show fl.length - (p ++ [x]).length < fl.length - p.length
        simp only [List.length_append, List.length_cons, List.length_nil]
        omega
end Go.Proofs.YthmbncehoblgpaaDoor.E
