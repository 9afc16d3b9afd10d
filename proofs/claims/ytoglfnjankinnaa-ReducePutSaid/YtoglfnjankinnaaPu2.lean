/- A value put for a name: the document's walk; whether a term fits; copies. No conditions. -/
import Derived.Test.YtoglfnjankinnaaPu1
set_option linter.unusedVariables false
set_option linter.unusedSimpArgs false
namespace Go.Proofs.Ytoglfnjankinnaa.E
open Go

set_option maxRecDepth 10000 in
theorem rput_call (name : ByteArray) (v : Tm) (t : Tm) : tmN t ≤ 8192 → ACall Try.prog 78 [t.val, .c (.d (.str name)), v.val] [] (fun o σ => o = .ret (tmput name v t).val ∧ σ = []) := by
  induction t using Tm.ind with
  | _ k nm arg num tk tks uk uks label place ks ih =>
  intro hN
  have hlen := tmNL_len ks
  simp only [tmN] at hN
  have ih' : ∀ t ∈ ks, ACall Try.prog 78 [t.val, .c (.d (.str name)), v.val] [] (fun o σ => o = .ret (tmput name v t).val ∧ σ = []) := fun t ht => ih t ht (by have := tmN_mem ks t ht; omega)
  have hl8 : ks.length ≤ 8192 := by omega
  clear ih hN hlen
  have hide := fun (l : List Tm) (i : Int) => hides_call k nm arg num tk tks uk uks label place l name i
  have wk := fun (l : List Tm) (j : Nat) (x : Tm) (h : l.length ≤ 8192) => withk_call k nm arg num tk tks uk uks label place l j x h
  obtain ⟨kx, nx, gx, ux, tkx, tsx, ukx, usx, lx, px, ksx⟩ := v
  by_cases h0 : k = 0
  · subst h0
    simp only [tmput, if_true]
    clear ih' wk
    refine ACall.body tab_ok (ρ := 0) (N := 41) Try.func78 rfl rfl rfl rfl rfl ?_
    repeat' first
      | refine AW.seq ?_
      | refine AW.block ?_
      | (refine AW.region tab_ok ?_; conv => whnf)
      | (refine AW.draw (id := 9) tab_ok mixed [0, 1, 2, 3, 4, 5, 6, 7, 8, 9, 10, 11] (by kernel_rfl) ?_; conv => whnf)
      | (refine AW.cond ?_; conv => whnf)
      | (refine AW.skip ?_; conv => whnf)
      | (refine AW.ret ?_; conv => whnf)
      | (refine AW.exit ?_; conv => whnf)
      | (refine And.intro (@rfl Val _) ?_; conv => whnf)
      | (refine And.intro (by decide) ?_; conv => whnf)
      | (refine cs (fun _ => ?_) (fun _ => ?_) <;> conv => whnf)
    · rename_i h
      rw [if_pos (of_decide_eq_true h)]
      exact ⟨rfl, rfl⟩
    · rename_i h
      rw [if_neg (of_decide_eq_false h)]
      exact ⟨rfl, rfl⟩
  have b0 : (k == 0) = false := by simpa using h0
  simp only [tmput, if_neg h0]
  rw [← putTo_all]
  refine ACall.body tab_ok (ρ := 0) (N := 41) Try.func78 rfl rfl rfl rfl rfl ?_
  repeat' first
    | ((refine cs (fun h => absurd h (by rw [b0]; decide)) (fun _ => ?_); conv => whnf))
    | refine AW.seq ?_
    | refine AW.block ?_
    | (refine AW.region tab_ok ?_; conv => whnf)
    | (refine AW.draw (id := 9) tab_ok mixed [0, 1, 2, 3, 4, 5, 6, 7, 8, 9, 10, 11] (by kernel_rfl) ?_; conv => whnf)
    | (refine AW.cond ?_; conv => whnf)
    | (refine AW.skip ?_; conv => whnf)
    | (refine AW.ret ?_; conv => whnf)
    | (refine AW.exit ?_; conv => whnf)
    | (refine And.intro (@rfl Val _) ?_; conv => whnf)
    | (refine And.intro (by decide) ?_; conv => whnf)
    | (refine cs (fun _ => ?_) (fun _ => ?_) <;> conv => whnf)
  refine AW.loop (ι := UpN ks.length) (fun x => ⟨41, [(7, .c (.d (.int .i64 x.i))), (1, .c (.d (.str name))), (3, .c (.ptr 0 0)), (5, .c (.ptr 1 0)), (6, .c (.ptr 2 0))],
      [.var [.d (.int .i8 k), .d (.str nm), .d (.str arg), .d (.int .i64 num), .d (.int .i8 tk), .d (.sl 0 2 (Ty.rows tks)), .d (.int .i8 uk), .d (.sl 0 2 (Ty.rows uks)), .d (.int .i64 label), .d (.int .i64 place), .d (.sl 0 11 (Tm.rows (putTo name (Tm.node kx nx gx ux tkx tsx ukx usx lx px ksx) k nm arg ks x.i)))],
       .var ((Tm.node kx nx gx ux tkx tsx ukx usx lx px ksx).cells.map .d),
       .var [.d (.int .i8 0), .d (.str ⟨#[]⟩), .d (.str ⟨#[]⟩), .d (.int .i64 0), .d (.int .i8 0), .d .nils, .d (.int .i8 0), .d .nils, .d (.int .i64 0), .d (.int .i64 0), .d .nils]], []⟩)
    (fun x => ks.length - x.i) ⟨0, Nat.zero_le _⟩ 3 (fun _ => rfl) (Nat.le_of_ble_eq_true rfl) ⟨⟨rfl, rfl, rfl, rfl, rfl, trivial⟩, rfl, rfl, ⟨[], by simp only [putTo_zero]; rfl⟩, rfl⟩ (fun x => ?_)
  obtain ⟨i, hi⟩ := x
  repeat' first
    | refine AW.seq ?_
    | refine AW.block ?_
    | (refine AW.region tab_ok ?_; conv => whnf)
    | (refine AW.draw (id := 9) tab_ok mixed [0, 1, 2, 3, 4, 5, 6, 7, 8, 9, 10, 11] (by kernel_rfl) ?_; conv => whnf)
    | (refine AW.cond ?_; conv => whnf)
    | (refine AW.skip ?_; conv => whnf)
    | (refine AW.ret ?_; conv => whnf)
    | (refine AW.exit ?_; conv => whnf)
    | (refine (hide _ _).mono ?_; rintro _ _ ⟨rfl, rfl⟩; conv => whnf)
    | (refine And.intro (@rfl Val _) ?_; conv => whnf)
    | (refine And.intro (by decide) ?_; conv => whnf)
    | (refine cs (fun _ => ?_) (fun _ => ?_) <;> conv => whnf)
  · rename_i h1 h2
    simp only [trows_length, putTo_len] at h1
    have h1 := of_decide_eq_true h1
    have hlt : i < ks.length := by omega
    obtain ⟨y, hy⟩ : ∃ y, ks[i]? = some y := ⟨_, List.getElem?_eq_getElem hlt⟩
    have hh : hidF k nm arg i name = false := by simpa using h2
    have hnx := putTo_next name (Tm.node kx nx gx ux tkx tsx ukx usx lx px ksx) k nm arg ks i y hy
    rw [hh] at hnx
    simp only [Bool.false_eq_true, if_false] at hnx
    have hgt := putTo_get name (Tm.node kx nx gx ux tkx tsx ukx usx lx px ksx) k nm arg ks i hlt
    rw [hy] at hgt
    have ic := ih' y (List.mem_of_getElem? hy)
    have wc := wk (putTo name (Tm.node kx nx gx ux tkx tsx ukx usx lx px ksx) k nm arg ks i) i (tmput name (Tm.node kx nx gx ux tkx tsx ukx usx lx px ksx) y) (by rw [putTo_len]; exact hl8)
    rw [← hnx] at wc
    refine ⟨⟨by simp only; omega, (show ((i : Nat) : Int) < ((Tm.rows (putTo name (Tm.node kx nx gx ux tkx tsx ukx usx lx px ksx) k nm arg ks i)).length : Nat) by rw [trows_length, putTo_len]; omega)⟩, fun row hrow => ?_⟩
    obtain ⟨z, hz, rfl⟩ := trows_get _ i row (by simpa using hrow)
    obtain rfl : y = z := by rw [hgt] at hz; exact Option.some.inj hz
    generalize tmput name (Tm.node kx nx gx ux tkx tsx ukx usx lx px ksx) y = q at ic wc
    clear hz hrow hnx hgt hy
    obtain ⟨ky, ny, gy, uy, tky, tsy, uky, usy, ly, py, ksy⟩ := y
    obtain ⟨kq, nq, gq, uq, tkq, tsq, ukq, usq, lq, pq, ksq⟩ := q
    conv => whnf
    repeat' first
      | refine AW.seq ?_
      | refine AW.block ?_
      | (refine AW.region tab_ok ?_; conv => whnf)
      | (refine AW.draw (id := 9) tab_ok mixed [0, 1, 2, 3, 4, 5, 6, 7, 8, 9, 10, 11] (by kernel_rfl) ?_; conv => whnf)
      | (refine AW.cond ?_; conv => whnf)
      | (refine AW.skip ?_; conv => whnf)
      | (refine AW.ret ?_; conv => whnf)
      | (refine AW.exit ?_; conv => whnf)
      | (refine (ic).mono ?_; rintro _ _ ⟨rfl, rfl⟩; conv => whnf)
      | (refine (wc).mono ?_; rintro _ _ ⟨rfl, rfl⟩; conv => whnf)
      | (refine And.intro (@rfl Val _) ?_; conv => whnf)
      | (refine And.intro (by decide) ?_; conv => whnf)
      | (refine cs (fun _ => ?_) (fun _ => ?_) <;> conv => whnf)
    rw [wrap64 (x := (i : Int) + 1) (by omega) (by omega)]
    exact ⟨⟨i + 1, hlt⟩, ⟨⟨rfl, rfl, rfl, rfl, rfl, trivial⟩, rfl, rfl, ⟨[], rfl⟩, rfl⟩, show ks.length - (i + 1) < ks.length - i by omega⟩
  · rename_i h1 h2
    simp only [trows_length, putTo_len] at h1
    have h1 := of_decide_eq_true h1
    have hlt : i < ks.length := by omega
    obtain ⟨y, hy⟩ : ∃ y, ks[i]? = some y := ⟨_, List.getElem?_eq_getElem hlt⟩
    have hh : hidF k nm arg i name = true := by simpa using h2
    have hs := putTo_hid name (Tm.node kx nx gx ux tkx tsx ukx usx lx px ksx) k nm arg ks i y hy (by rw [hh]; rfl)
    rw [wrap64 (x := (i : Int) + 1) (by omega) (by omega)]
    refine ⟨⟨i + 1, hlt⟩, ⟨⟨rfl, rfl, rfl, rfl, rfl, trivial⟩, rfl, rfl, ⟨[], ?_⟩, rfl⟩, show ks.length - (i + 1) < ks.length - i by omega⟩
    simp only [hs]
    rfl
  · rename_i h1
    simp only [trows_length, putTo_len] at h1
    have h1 := of_decide_eq_false h1
    obtain rfl : i = ks.length := by omega
    exact ⟨rfl, rfl⟩
def fitsF (t : Tm) : Int := if tmN t > 8192 then 32 else if tmDepth t > 200 then 31 else 0
set_option maxRecDepth 10000 in
theorem fits_call (t : Tm) : ACall Try.prog 76 [t.val] [] (fun o σ => o = .ret (.c (.d (.int .i64 (fitsF t)))) ∧ σ = []) := by
  have c1 := tnodes_call t
  have c2 := tDepth_call t
  unfold fitsF
  generalize tmN t = nn at *
  generalize tmDepth t = dd at *
  obtain ⟨k, nm, arg, num, tk, tks, uk, uks, label, place, ks⟩ := t
  refine ACall.body tab_ok (ρ := 0) (N := 11) Try.func76 rfl rfl rfl rfl rfl ?_
  repeat' first
    | refine AW.seq ?_
    | refine AW.block ?_
    | (refine AW.region tab_ok ?_; conv => whnf)
    | (refine AW.cond ?_; conv => whnf)
    | (refine AW.skip ?_; conv => whnf)
    | (refine AW.ret ?_; conv => whnf)
    | (refine AW.exit ?_; conv => whnf)
    | (refine (c1).mono ?_; rintro _ _ ⟨rfl, rfl⟩; conv => whnf)
    | (refine (c2).mono ?_; rintro _ _ ⟨rfl, rfl⟩; conv => whnf)
    | (refine And.intro (@rfl Val _) ?_; conv => whnf)
    | (refine And.intro (by decide) ?_; conv => whnf)
    | (refine cs (fun _ => ?_) (fun _ => ?_) <;> conv => whnf)
  · rename_i h1
    have h1 := of_decide_eq_true h1
    rw [if_pos (by omega)]
    exact ⟨rfl, rfl⟩
  · rename_i h1 h2
    have h1 := of_decide_eq_false h1
    have h2 := of_decide_eq_true h2
    rw [if_neg (by omega), if_pos (by omega)]
    exact ⟨rfl, rfl⟩
  · rename_i h1 h2
    have h1 := of_decide_eq_false h1
    have h2 := of_decide_eq_false h2
    rw [if_neg (by omega), if_neg (by omega)]
    exact ⟨rfl, rfl⟩
set_option maxRecDepth 10000 in
theorem rfits_call (t : Tm) : ACall Try.prog 79 [t.val] [] (fun o σ => o = .ret (.c (.d (.int .i64 (fitsF t)))) ∧ σ = []) := by
  have c1 := rtnodes_call t
  have c2 := rtDepth_call t
  unfold fitsF
  generalize tmN t = nn at *
  generalize tmDepth t = dd at *
  obtain ⟨k, nm, arg, num, tk, tks, uk, uks, label, place, ks⟩ := t
  refine ACall.body tab_ok (ρ := 0) (N := 9) Try.func79 rfl rfl rfl rfl rfl ?_
  repeat' first
    | refine AW.seq ?_
    | refine AW.block ?_
    | (refine AW.region tab_ok ?_; conv => whnf)
    | (refine AW.cond ?_; conv => whnf)
    | (refine AW.skip ?_; conv => whnf)
    | (refine AW.ret ?_; conv => whnf)
    | (refine AW.exit ?_; conv => whnf)
    | (refine (c1).mono ?_; rintro _ _ ⟨rfl, rfl⟩; conv => whnf)
    | (refine (c2).mono ?_; rintro _ _ ⟨rfl, rfl⟩; conv => whnf)
    | (refine And.intro (@rfl Val _) ?_; conv => whnf)
    | (refine And.intro (by decide) ?_; conv => whnf)
    | (refine cs (fun _ => ?_) (fun _ => ?_) <;> conv => whnf)
  · rename_i h1
    have h1 := of_decide_eq_true h1
    rw [if_pos (by omega)]
    exact ⟨rfl, rfl⟩
  · rename_i h1 h2
    have h1 := of_decide_eq_false h1
    have h2 := of_decide_eq_true h2
    rw [if_neg (by omega), if_pos (by omega)]
    exact ⟨rfl, rfl⟩
  · rename_i h1 h2
    have h1 := of_decide_eq_false h1
    have h2 := of_decide_eq_false h2
    rw [if_neg (by omega), if_neg (by omega)]
    exact ⟨rfl, rfl⟩
end Go.Proofs.Ytoglfnjankinnaa.E
