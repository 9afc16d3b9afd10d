/- Walks: defs.needed and its closure. No conditions. -/
import Derived.Test.YthmbncehoblgpaaGreatDoorDf2
import Derived.Test.YthmbncehoblgpaaGreatDoorFr3
set_option linter.unusedVariables false
set_option linter.unusedSimpArgs false
namespace Go.Proofs.YthmbncehoblgpaaGreatDoor.E
open Go

/-- What the closure sees. -/
def mObj (l : List Df) (m : List Bool) : List AObj :=
  [.var [.own 4 (brows m).length], .var [.d (.sl 0 15 (drows l))], .var [.mp 5], .var [.fn 32 [] [.ptr 0 0, .ptr 1 0, .ptr 2 0, .ptr 3 0]], .row 4 1 (brows m), .mp .str l.length (encL (hv 0 l))]
def MarkC (l : List Df) (i : Nat) : Prop := ∀ m : List Bool, m.length = l.length →
  ACall Tryz.prog 32 [.c (.d (.int .i64 i)), .c (.ptr 0 0), .c (.ptr 1 0), .c (.ptr 2 0), .c (.ptr 3 0)] (mObj l m) (fun o σ => o = .ret (.tup []) ∧ ∃ m', Marked l i m m' ∧ σ = mObj l m')
theorem freeS_len (t : Tm) : (freeS t).length ≤ 8192 := by
  unfold freeS
  split
  · rename_i h
    have h1 := fterm_len t ((0, []), (0, []))
    have := (tmcheck_ok h).1
    simp only [bsort_len, freeR, List.length_map]
    simp at h1
    omega
  · simp
structure MaI (l : List Df) (i : Nat) (names : List ByteArray) (m : List Bool) where
  q : Nat
  hq : q ≤ names.length
  m' : List Bool
  h : Marking l i (names.take q) m m'
set_option maxRecDepth 10000 in
theorem mark_call (l : List Df) (hl : l.length ≤ 256) (hu : Uniq l) (i : Nat) : i < l.length → MarkC l i := by
  induction i using Nat.strongRecOn with
  | _ i ih =>
  intro hi m hm
  obtain ⟨d, hd⟩ : ∃ d, l[i]? = some d := ⟨_, List.getElem?_eq_getElem hi⟩
  obtain ⟨b, hb⟩ : ∃ b, m[i]? = some b := ⟨_, List.getElem?_eq_getElem (by omega)⟩
  have hrow : (drows l)[i]? = some d.cells := by simp [drows, hd]
  have hbr : (brows m)[i]? = some [.bool b] := by simp [brows, hb]
  unfold mObj
  refine ACall.body tab_ok (ρ := 0) (N := 42) Tryz.func32 rfl rfl rfl rfl rfl ?_
  repeat' first | refine AW.seq ?_ | refine AW.block ?_ | ((first | refine AW.region tab_ok ?_ | refine AW.cond ?_ | refine AW.skip ?_ | refine AW.ret ?_ | refine AW.exit ?_); conv => whnf) | ((first | refine And.intro (@rfl Val _) ?_ | refine And.intro (by decide) ?_ | refine cs (fun _ => ?_) (fun _ => ?_)) <;> conv => whnf)
  have hbl := brows_len m
  refine ⟨⟨rfl, by omega, by omega⟩, ?_⟩
  conv => whnf
  repeat' first | refine AW.seq ?_ | refine AW.block ?_ | ((first | refine AW.region tab_ok ?_ | refine AW.cond ?_ | refine AW.skip ?_ | refine AW.ret ?_ | refine AW.exit ?_); conv => whnf) | ((first | refine And.intro (@rfl Val _) ?_ | refine And.intro (by decide) ?_ | refine cs (fun _ => ?_) (fun _ => ?_)) <;> conv => whnf)
  refine ⟨⟨rfl, by omega⟩, fun row hr => ?_⟩
  obtain rfl : row = [.bool b] := by rw [show ((i : Int)).toNat = i from rfl, hbr] at hr; exact (Option.some.inj hr).symm
  conv => whnf
  repeat' first | refine AW.seq ?_ | refine AW.block ?_ | ((first | refine AW.region tab_ok ?_ | refine AW.cond ?_ | refine AW.skip ?_ | refine AW.ret ?_ | refine AW.exit ?_); conv => whnf) | ((first | refine And.intro (@rfl Val _) ?_ | refine And.intro (by decide) ?_ | refine cs (fun _ => ?_) (fun _ => ?_)) <;> conv => whnf)
  · rename_i h
    exact ⟨rfl, m, Marked.old (by rw [hb, h]), rfl⟩
  clear hr
  refine ⟨⟨rfl, by omega, by omega⟩, ?_⟩
  conv => whnf
  repeat' first | refine AW.seq ?_ | refine AW.block ?_ | ((first | refine AW.region tab_ok ?_ | refine AW.cond ?_ | refine AW.skip ?_ | refine AW.ret ?_ | refine AW.exit ?_); conv => whnf) | ((first | refine And.intro (@rfl Val _) ?_ | refine And.intro (by decide) ?_ | refine cs (fun _ => ?_) (fun _ => ?_)) <;> conv => whnf)
  refine ⟨⟨rfl, by omega⟩, ?_⟩
  rw [show ((i : Int)).toNat = i from rfl, brows_set, show (brows m).length = (brows (m.set i true)).length by simp [brows_len]]
  have hst := Marking.start (l := l) (i := i) (m := m) (by omega)
  have hfin := fun (m' : List Bool) (h : Marking l i (freeS d.tm) m m') => h.done hd
  have c1 := tFree_call d.tm
  have hfl : (freeS d.tm).length ≤ 8192 := freeS_len d.tm
  have hcl := fun (j : Nat) (e : Df) ns m1 m2 he hj hf (h : Marking l i ns m m1) g => h.call (m'' := m2) hu (j := j) (e := e) hd he hj hf g
  obtain ⟨s, ⟨a, bs⟩, ⟨k, name, arg, num, tk, tks, uk, uks, label, place, ks⟩, pl⟩ := d
  simp only at hfin c1 hfl hcl
  generalize freeS (Tm.node k name arg num tk tks uk uks label place ks) = ns at *
  conv => whnf
  repeat' first | refine AW.seq ?_ | refine AW.block ?_ | ((first | refine AW.region tab_ok ?_ | refine AW.cond ?_ | refine AW.skip ?_ | refine AW.ret ?_ | refine AW.exit ?_); conv => whnf) | (refine (c1).mono ?_; rintro _ _ ⟨rfl, rfl⟩; conv => whnf) | ((first | refine And.intro (@rfl Val _) ?_ | refine And.intro (by decide) ?_ | refine cs (fun _ => ?_) (fun _ => ?_)) <;> conv => whnf)
  refine ⟨by rw [drows_len]; omega, fun row hr => ?_⟩
  obtain rfl := Option.some.inj (hrow.symm.trans hr)
  conv => whnf
  repeat' first | refine AW.seq ?_ | refine AW.block ?_ | ((first | refine AW.region tab_ok ?_ | refine AW.cond ?_ | refine AW.skip ?_ | refine AW.ret ?_ | refine AW.exit ?_); conv => whnf) | (refine (c1).mono ?_; rintro _ _ ⟨rfl, rfl⟩; conv => whnf) | ((first | refine And.intro (@rfl Val _) ?_ | refine And.intro (by decide) ?_ | refine cs (fun _ => ?_) (fun _ => ?_)) <;> conv => whnf)
  refine AW.loop (ι := MaI l i ns m) (fun x => ⟨42, [(23, .c (.d (.int .i64 x.q))), (22, .c (.d (.int .i64 (strs ns).length))), (21, .c (.d (.sl 0 1 (strs ns)))), (0, .c (.d (.int .i64 i))), (1, .c (.ptr 0 0)), (2, .c (.ptr 1 0)), (3, .c (.ptr 2 0)), (4, .c (.ptr 3 0))], mObj l x.m', []⟩)
    (fun x => ns.length - x.q) ⟨0, Nat.zero_le _, _, hst⟩ 6 (fun _ => rfl) (Nat.le_of_ble_eq_true rfl) ⟨⟨rfl, rfl, rfl, rfl, rfl, rfl, rfl, rfl, trivial⟩, rfl, rfl, ⟨[], rfl⟩, rfl⟩ (fun x => ?_)
  obtain ⟨q, hq, m1, h1⟩ := x
  unfold mObj
  repeat' first | refine AW.seq ?_ | refine AW.block ?_ | ((first | refine AW.region tab_ok ?_ | refine AW.cond ?_ | refine AW.skip ?_ | refine AW.ret ?_ | refine AW.exit ?_); conv => whnf) | ((first | refine And.intro (@rfl Val _) ?_ | refine And.intro (by decide) ?_ | refine cs (fun _ => ?_) (fun _ => ?_)) <;> conv => whnf)
  · rename_i h2
    simp only [strs_len] at h2 ⊢
    have := of_decide_eq_true h2
    refine ⟨by omega, fun row hr2 => ?_⟩
    obtain ⟨n, hn, rfl⟩ := strs_get (by simpa using hr2)
    have htk : ns.take (q + 1) = ns.take q ++ [n] := by rw [List.take_add_one, hn]; rfl
    have hlq : q < ns.length := (List.getElem?_eq_some_iff.1 hn).1
    have hml : m1.length = l.length := h1.len.trans hm
    have htv := tval_hv n l 0
    by_cases hz : nix n 0 l = 0
    · rw [hz] at htv
      have hsk := h1.skip (n := n) (fun s e he _ => nix_zero.1 hz e (List.mem_of_getElem? he))
      rw [← htk] at hsk
      conv => whnf
      repeat' first | ((refine mlook_of ?_; rw [htv]; conv => whnf)) | refine AW.seq ?_ | refine AW.block ?_ | ((first | refine AW.region tab_ok ?_ | refine AW.cond ?_ | refine AW.skip ?_ | refine AW.ret ?_ | refine AW.exit ?_); conv => whnf) | ((first | refine And.intro (@rfl Val _) ?_ | refine And.intro (by decide) ?_ | refine cs (fun _ => ?_) (fun _ => ?_)) <;> conv => whnf)
      rw [wrap64 (x := (q : Int) + 1) (by omega) (by omega)]
      exact ⟨⟨q + 1, hlq, m1, hsk⟩, ⟨⟨rfl, rfl, rfl, rfl, rfl, rfl, rfl, rfl, trivial⟩, rfl, rfl, ⟨[], rfl⟩, rfl⟩, show ns.length - (q + 1) < ns.length - q by omega⟩
    · obtain ⟨j, e, he, hen, hnx, hfst⟩ := nix_pos hz
      have hjl := (List.getElem?_eq_some_iff.1 he).1
      rw [hnx] at htv
      have hw : IntKind.i64.wrap (((0 : Nat) : Int) + (j : Int) + 1 - 1) = (j : Int) := by rw [wrap64 (by omega) (by omega)]; omega
      have hge : decide ((j : Int) ≥ 0) = true := by simp
      conv => whnf
      repeat' first | refine AW.seq ?_ | refine AW.block ?_ | ((first | refine AW.region tab_ok ?_ | refine AW.cond ?_ | refine AW.skip ?_ | refine AW.ret ?_ | refine AW.exit ?_); conv => whnf) | ((first | refine And.intro (@rfl Val _) ?_ | refine And.intro (by decide) ?_ | refine cs (fun _ => ?_) (fun _ => ?_)) <;> conv => whnf)
      refine mlook_of ?_
      rw [htv]
      conv => whnf
      rw [hw]
      by_cases hji : j < i
      · have hlt : decide ((j : Int) < (i : Int)) = true := by simp [hji]
        repeat' first | ((rw [hge]; conv => whnf)) | ((rw [hlt]; conv => whnf)) | ((refine (ih j hji hjl m1 hml).mono ?_; rintro _ _ ⟨rfl, m2, hm2, rfl⟩; conv => whnf)) | refine AW.seq ?_ | refine AW.block ?_ | ((first | refine AW.region tab_ok ?_ | refine AW.cond ?_ | refine AW.skip ?_ | refine AW.ret ?_ | refine AW.exit ?_); conv => whnf) | ((first | refine And.intro (@rfl Val _) ?_ | refine And.intro (by decide) ?_ | refine cs (fun _ => ?_) (fun _ => ?_)) <;> conv => whnf)
        have hnx2 := hcl j e _ m1 m2 he hji (by rw [hen]; exact List.mem_of_getElem? hn) h1 hm2
        rw [hen, ← htk] at hnx2
        rw [wrap64 (x := (q : Int) + 1) (by omega) (by omega)]
        exact ⟨⟨q + 1, hlq, m2, hnx2⟩, ⟨⟨rfl, rfl, rfl, rfl, rfl, rfl, rfl, rfl, trivial⟩, rfl, rfl, ⟨[], rfl⟩, rfl⟩, show ns.length - (q + 1) < ns.length - q by omega⟩
      · have hlt : decide ((j : Int) < (i : Int)) = false := by simp; omega
        have hsk := h1.skip (n := n) (fun s e' he' hs hnn => by have := hu s j e' e he' he (hnn.trans hen.symm); omega)
        rw [← htk] at hsk
        repeat' first | ((rw [hge]; conv => whnf)) | ((rw [hlt]; conv => whnf)) | refine AW.seq ?_ | refine AW.block ?_ | ((first | refine AW.region tab_ok ?_ | refine AW.cond ?_ | refine AW.skip ?_ | refine AW.ret ?_ | refine AW.exit ?_); conv => whnf) | ((first | refine And.intro (@rfl Val _) ?_ | refine And.intro (by decide) ?_ | refine cs (fun _ => ?_) (fun _ => ?_)) <;> conv => whnf)
        rw [wrap64 (x := (q : Int) + 1) (by omega) (by omega)]
        exact ⟨⟨q + 1, hlq, m1, hsk⟩, ⟨⟨rfl, rfl, rfl, rfl, rfl, rfl, rfl, rfl, trivial⟩, rfl, rfl, ⟨[], rfl⟩, rfl⟩, show ns.length - (q + 1) < ns.length - q by omega⟩
  · rename_i h2
    simp only [strs_len] at h2
    have := of_decide_eq_false h2
    rw [List.take_of_length_le (by omega)] at h1
    exact ⟨rfl, m1, hfin m1 h1, rfl⟩
structure NeI (l : List Df) where
  i : Nat
  hi : i ≤ l.length
set_option maxRecDepth 10000 in
theorem needed_call (l : List Df) (k : Nat) (hk : k < l.length) (hl : l.length ≤ 256) (hnd : Uniq l) : ACall Tryz.prog 16 [.c (.d (.sl 0 15 (drows l))), .c (.d (.int .i64 k))] [] (fun o σ => o = .ret (.c (.d (.sl 0 1 (brows (needB l k))))) ∧ σ = []) := by
  refine ACall.body tab_ok (ρ := 0) (N := 32) Tryz.func16 rfl rfl rfl rfl rfl ?_
  repeat' first | refine AW.seq ?_ | refine AW.block ?_ | ((first | refine AW.region tab_ok ?_ | refine AW.cond ?_ | refine AW.skip ?_ | refine AW.ret ?_ | refine AW.exit ?_); conv => whnf) | ((first | refine And.intro (@rfl Val _) ?_ | refine And.intro (by decide) ?_ | refine cs (fun _ => ?_) (fun _ => ?_)) <;> conv => whnf)
  refine AW.loop (ι := NeI l) (fun x => ⟨32, [(13, .c (.d (.int .i64 x.i))), (12, .c (.d (.int .i64 (drows l).length))), (11, .c (.d (.sl 0 15 (drows l)))), (5, .c (.ptr 2 0)), (2, .c (.ptr 0 0)), (1, .c (.d (.int .i64 k)))], [.var [.d (.sl 0 15 (drows l))], .mp .str x.i (encL (hv 0 (l.take x.i))), .var [.mp 1]], []⟩)
    (fun x => l.length - x.i) ⟨0, Nat.zero_le _⟩ 3 (fun _ => rfl) (Nat.le_of_ble_eq_true rfl) ⟨⟨rfl, rfl, rfl, rfl, rfl, rfl, trivial⟩, rfl, rfl, obj1 l, rfl⟩ (fun x => ?_)
  obtain ⟨i, hi⟩ := x
  repeat' first | refine AW.seq ?_ | refine AW.block ?_ | ((first | refine AW.region tab_ok ?_ | refine AW.cond ?_ | refine AW.skip ?_ | refine AW.ret ?_ | refine AW.exit ?_); conv => whnf) | ((first | refine And.intro (@rfl Val _) ?_ | refine And.intro (by decide) ?_ | refine cs (fun _ => ?_) (fun _ => ?_)) <;> conv => whnf)
  · rename_i h1
    simp only [drows_len] at h1 ⊢
    have := of_decide_eq_true h1
    refine ⟨by omega, fun row hrow => ?_⟩
    obtain ⟨d, hd, rfl⟩ := drows_get (by simpa using hrow)
    have hlt : i < l.length := (List.getElem?_eq_some_iff.1 hd).1
    have hs := take_snoc hd
    have h0 := hnd.fresh hd
    have hlt2 : (l.take i).length = i := by simp; omega
    obtain ⟨s, ⟨a, bs⟩, ⟨q, name, arg, num, tk, tks, uk, uks, label, place, ks⟩, pl⟩ := d
    have hput := tput_hv (d := ⟨s, .node a bs, .node q name arg num tk tks uk uks label place ks, pl⟩) hlt2.symm rfl h0 ((i : Int) + 1) rfl
    rw [← hs] at hput
    simp only at hput
    conv => whnf
    repeat' first | ((refine mput_of ?_; conv => whnf)) | refine AW.seq ?_ | refine AW.block ?_ | ((first | refine AW.region tab_ok ?_ | refine AW.cond ?_ | refine AW.skip ?_ | refine AW.ret ?_ | refine AW.exit ?_); conv => whnf) | ((first | refine And.intro (@rfl Val _) ?_ | refine And.intro (by decide) ?_ | refine cs (fun _ => ?_) (fun _ => ?_)) <;> conv => whnf)
    rw [wrap64 (x := (i : Int) + 1) (by omega) (by omega), hput]
    exact ⟨⟨i + 1, hlt⟩, ⟨⟨rfl, rfl, rfl, rfl, rfl, rfl, trivial⟩, rfl, rfl, ⟨_, rfl⟩, rfl⟩, show l.length - (i + 1) < l.length - i by omega⟩
  · rename_i h1
    simp only [drows_len] at h1
    have := of_decide_eq_false h1
    obtain rfl : i = l.length := by omega
    repeat' first | refine AW.seq ?_ | refine AW.block ?_ | ((first | refine AW.region tab_ok ?_ | refine AW.cond ?_ | refine AW.skip ?_ | refine AW.ret ?_ | refine AW.exit ?_); conv => whnf) | ((first | refine And.intro (@rfl Val _) ?_ | refine And.intro (by decide) ?_ | refine cs (fun _ => ?_) (fun _ => ?_)) <;> conv => whnf)
    rw [drows_len]
    refine ⟨⟨by omega, by omega, by simp only; omega, by omega⟩, ?_⟩
    conv => whnf
    repeat' first | refine AW.seq ?_ | refine AW.block ?_ | ((first | refine AW.region tab_ok ?_ | refine AW.cond ?_ | refine AW.skip ?_ | refine AW.ret ?_ | refine AW.exit ?_); conv => whnf) | ((first | refine And.intro (@rfl Val _) ?_ | refine And.intro (by decide) ?_ | refine cs (fun _ => ?_) (fun _ => ?_)) <;> conv => whnf)
    have e1 : List.replicate (((l.length : Nat) : Int)).toNat [DV.bool false] = brows (List.replicate l.length false) := by simp [brows]
    have e2 : (((l.length : Nat) : Int)).toNat = (brows (List.replicate l.length false)).length := by simp [brows]
    have e3 : hv 0 (l.take l.length) = hv 0 l := by rw [List.take_length]
    have hmc := mark_call l hl hnd k hk (List.replicate l.length false) (by simp)
    unfold mObj at hmc
    rw [← e3, ← e2, ← e1] at hmc
    refine hmc.mono ?_
    rintro _ _ ⟨rfl, m', hm', rfl⟩
    obtain rfl := hm'.all
    generalize needB l k = m'
    conv => whnf
    repeat' first | refine AW.seq ?_ | refine AW.block ?_ | ((first | refine AW.region tab_ok ?_ | refine AW.cond ?_ | refine AW.skip ?_ | refine AW.ret ?_ | refine AW.exit ?_); conv => whnf) | ((first | refine And.intro (@rfl Val _) ?_ | refine And.intro (by decide) ?_ | refine cs (fun _ => ?_) (fun _ => ?_)) <;> conv => whnf)
    refine ⟨rfl, ?_⟩
    conv => whnf
    exact ⟨rfl, rfl⟩
end Go.Proofs.YthmbncehoblgpaaGreatDoor.E
