/- Texts, merged: Kw6, Kw7, TyOpen, Glue, TmOpen. No conditions. -/
import Derived.Test.YtmaokphbfjpodaaGreatDoorGenX9
import Derived.Test.YtmaokphbfjpodaaGreatDoorGenX11
import Derived.Test.YtmaokphbfjpodaaGreatDoorEngX3
import Derived.Test.YtmaokphbfjpodaaGreatDoorGenX2
import Derived.Deep.Slices
import Derived.WideKeyArgs
import Derived.ChangeArms
import Derived.ChangeOld
import Derived.Below
import Derived.WalkKit
import Derived.ProofKit
import Derived.OpenShut
import Derived.SizedLaws
/- Walks: places. No conditions. -/
set_option linter.unusedVariables false
set_option linter.unusedSimpArgs false
namespace Go.Proofs.YtmaokphbfjpodaaGreatDoor.E
open Go

noncomputable def restPl : Code := match Tryz.f13.body with
  | some (.seq _ (.seq _ (.seq _ (.seq _ c)))) => c
  | _ => .skip
def PlcC (x : ByteArray) (t : Tm) : Prop := ∀ l : List Int, l.length + tmN t ≤ 500000 →
  ACall Tryz.prog 13 [t.val, .c (.d (.str x)), .c (.own 0 (zints l).length)] [.row 3 1 (zints l)] (fun o σ => o = .ret (.tup [.c (.own 0 (zints (l ++ ats t)).length), .c (.d (.bool true))]) ∧ σ = [.row 3 1 (zints (l ++ ats t))])
structure PlcI (ks : List Tm) where
  i : Nat
  hi : i ≤ ks.length
set_option maxRecDepth 10000 in
set_option maxHeartbeats 2000000 in
theorem places_rest (x : ByteArray) (k : Int) (name arg : ByteArray) (num tk : Int) (tks : List Ty) (uk : Int) (uks : List Ty) (label : Int) (m : Nat) (ks : List Tm) (h : ByteArray) (h1 : 1 ≤ h.size) (hsz : m + h.size ≤ x.size) (hext : x.extract m (m + h.size) = h) (hx : x.size ≤ 1000000)
    (hN : ks.length ≤ 8192) (l : List Int) (hl : l.length + 1 + tmNL ks ≤ 500000) (ih : ∀ t ∈ ks, PlcC x t) :
    AW Tryz.prog tab 0 restPl ⟨131, [(8, .c (.d (.str h))), (2, .c (.own 0 (zints l).length)), (3, .c (.ptr 1 0)), (1, .c (.d (.str x)))], [.row 3 1 (zints l), .var ((Tm.node k name arg num tk tks uk uks label m ks).cells.map .d)], []⟩
      (afin tab 0 13 Tryz.f13.results.toList ([AObj.row 3 1 (zints l)] : List AObj).length (fun o σ => o = .ret (.tup [.c (.own 0 (zints (l ++ ats (.node k name arg num tk tks uk uks label m ks))).length), .c (.d (.bool true))]) ∧ σ = [.row 3 1 (zints (l ++ ats (.node k name arg num tk tks uk uks label m ks)))])) := by
  have hw : IntKind.i64.wrap ((m : Int) + (h.size : Int)) = ((m + h.size : Nat) : Int) := by rw [wrap64 (by omega) (by omega)]; omega
  have hne : ¬ h = ⟨#[]⟩ := fun e => by rw [e] at h1; exact absurd h1 (by decide)
  have e0 : zints l ++ [[DV.int .i64 (m : Int)]] = zints (l ++ [(m : Int)]) := by rw [zints_app]; rfl
  simp only [Tm.cells, List.map_cons, List.map_nil]
  repeat' first | ((rw [hw]; conv => whnf)) | ((refine And.intro (⟨by omega, by omega, by omega⟩ : _ ∧ _ ∧ _) ?_; conv => whnf)) | ((refine cs (fun g => absurd g (by intro g; first | (exfalso; simp only [hw, hext, hne, Int.toNat_natCast, cond_false, cond_true, decide_true, decide_false, Bool.not_true, Bool.false_eq_true] at g; done) | (simp only [cond_false, cond_true, ge_iff_le, gt_iff_lt, decide_eq_true_eq] at g; omega))) (fun _ => ?_); conv => whnf)) | refine AW.seq ?_ | refine AW.block ?_ | ((first | refine AW.region tab_ok ?_ | refine AW.cond ?_ | refine AW.skip ?_ | refine AW.ret ?_ | refine AW.exit ?_); conv => whnf) | ((first | refine And.intro (@rfl Val _) ?_ | refine And.intro (by decide) ?_ | refine cs (fun _ => ?_) (fun _ => ?_)) <;> conv => whnf)
  refine ⟨⟨rfl, by simp only [bnd, zints_len, List.length_cons, List.length_nil]; omega⟩, ?_⟩
  conv => whnf
  repeat' first | refine AW.seq ?_ | refine AW.block ?_ | ((first | refine AW.region tab_ok ?_ | refine AW.cond ?_ | refine AW.skip ?_ | refine AW.ret ?_ | refine AW.exit ?_); conv => whnf) | ((first | refine And.intro (@rfl Val _) ?_ | refine And.intro (by decide) ?_ | refine cs (fun _ => ?_) (fun _ => ?_)) <;> conv => whnf)
  refine AW.loop (ι := PlcI ks) (fun y => ⟨131, [(10, .c (.d (.int .i64 y.i))), (9, .c (.d (.bool true))), (2, .c (.own 0 (zints (l ++ (m : Int) :: atsL (ks.take y.i))).length)), (3, .c (.ptr 1 0)), (1, .c (.d (.str x)))],
      [.row 3 1 (zints (l ++ (m : Int) :: atsL (ks.take y.i))), .var ((Tm.node k name arg num tk tks uk uks label m ks).cells.map .d)], []⟩)
    (fun y => ks.length - y.i) ⟨0, Nat.zero_le _⟩ 2 (fun _ => rfl) (Nat.le_of_ble_eq_true rfl) ⟨⟨rfl, rfl, by simp only [List.take_zero, atsL, ← e0, List.length_append]; rfl, rfl, rfl, trivial⟩, rfl, rfl, ⟨[], by simp only [List.take_zero, atsL, ← e0]; rfl⟩, rfl⟩ (fun y => ?_)
  obtain ⟨i, hi⟩ := y
  repeat' first | refine AW.seq ?_ | refine AW.block ?_ | ((first | refine AW.region tab_ok ?_ | refine AW.cond ?_ | refine AW.skip ?_ | refine AW.ret ?_ | refine AW.exit ?_); conv => whnf) | ((first | refine And.intro (@rfl Val _) ?_ | refine And.intro (by decide) ?_ | refine cs (fun _ => ?_) (fun _ => ?_)) <;> conv => whnf)
  · rename_i g
    try simp only [trows_length] at g
    have g := of_decide_eq_true g
    try simp only at g
    have hlt : i < ks.length := by omega
    obtain ⟨t, ht⟩ : ∃ t, ks[i]? = some t := ⟨_, List.getElem?_eq_getElem hlt⟩
    have e1 := tmNL_take ks i t ht
    have e2 := ztmNL_take_le ks (i + 1)
    have e3 := atsL_len (ks.take i)
    have hc := ih t (List.mem_of_getElem? ht) (l ++ (m : Int) :: atsL (ks.take i)) (by simp; omega)
    have e4 : l ++ (m : Int) :: atsL (ks.take i) ++ ats t = l ++ (m : Int) :: atsL (ks.take (i + 1)) := by rw [atsL_take ks i t ht]; simp
    rw [e4] at hc
    have hf : ∀ row, (Tm.rows ks)[((i : Nat) : Int).toNat]? = some row → t.cells = row := fun row h => by
      obtain ⟨y, hy, rfl⟩ := trows_get ks i row (by simpa using h)
      rw [ht] at hy; cases hy; rfl
    have hb : (0 : Int) ≤ (i : Int) ∧ (i : Int) < ((Tm.rows ks).length : Nat) := by rw [trows_length]; omega
    obtain ⟨kx, namex, argx, numx, tkx, tksx, ukx, uksx, labelx, placex, ksx⟩ := t
    refine ⟨hb, fun row hrow => ?_⟩
    obtain rfl := hf row hrow
    conv => whnf
    repeat' first | refine AW.seq ?_ | refine AW.block ?_ | ((first | refine AW.region tab_ok ?_ | refine AW.cond ?_ | refine AW.skip ?_ | refine AW.ret ?_ | refine AW.exit ?_); conv => whnf) | (refine (hc).mono ?_; rintro _ _ ⟨rfl, rfl⟩; conv => whnf) | ((first | refine And.intro (@rfl Val _) ?_ | refine And.intro (by decide) ?_ | refine cs (fun _ => ?_) (fun _ => ?_)) <;> conv => whnf)
    rw [wrap64 (x := (i : Int) + 1) (by omega) (by omega)]
    exact ⟨⟨i + 1, hlt⟩, ⟨⟨rfl, rfl, rfl, rfl, rfl, trivial⟩, rfl, rfl, ⟨[], rfl⟩, rfl⟩, show ks.length - (i + 1) < ks.length - i by omega⟩
  · rename_i g
    try simp only [trows_length] at g
    have g := of_decide_eq_false g
    try simp only at g
    obtain rfl : i = ks.length := by omega
    simp only [List.take_length, ats]
    exact ⟨rfl, rfl⟩
set_option maxRecDepth 10000 in
set_option maxHeartbeats 4000000 in
theorem places_call (x : ByteArray) (hx : x.size ≤ 1000000) (t : Tm) : Plc x t → tmInR t → tmN t ≤ 8192 → PlcC x t := by
  induction t using Tm.ind with
  | _ k name arg num tk tks uk uks label place ks ih =>
  rintro ⟨⟨m, h, rfl, h1, hsz, hext, hp⟩, hks⟩ ⟨hR, hRs⟩ hN l hl
  have hlen := tmNL_len ks
  simp only [tmN] at hN hl
  have ih' : ∀ t ∈ ks, PlcC x t := fun t ht => ih t ht (plcL_mem hks t ht) (tmInRs_mem ks t ht hRs) (by have := tmN_mem ks t ht; omega)
  have fin : ∀ (env : List (Nat × Val)), get env 8 = .c (.d (.str h)) → get env 2 = .c (.own 0 (zints l).length) → get env 3 = .c (.ptr 1 0) → get env 1 = .c (.d (.str x)) →
      AW Tryz.prog tab 0 restPl ⟨131, env, [.row 3 1 (zints l), .var ((Tm.node k name arg num tk tks uk uks label m ks).cells.map .d)], []⟩
      (afin tab 0 13 Tryz.f13.results.toList ([AObj.row 3 1 (zints l)] : List AObj).length (fun o σ => o = .ret (.tup [.c (.own 0 (zints (l ++ ats (.node k name arg num tk tks uk uks label m ks))).length), .c (.d (.bool true))]) ∧ σ = [.row 3 1 (zints (l ++ ats (.node k name arg num tk tks uk uks label m ks)))])) := fun env g8 g2 g3 g1 => by
    refine AW.fits ?_ ?_ (places_rest x k name arg num tk tks uk uks label m ks h h1 hsz hext hx (by omega) l (by omega) ih')
    · exact ⟨⟨g8, g2, g3, g1, trivial⟩, rfl, rfl, ⟨[], rfl⟩, rfl⟩
    · rfl
  have hF := fmt_call num hR.1 hR.2
  have hk := headP_kind hp
  have hmx : m < x.size := by omega
  simp only [Tm.cells, List.map_cons, List.map_nil] at fin
  clear ih ih' hks hRs hl hlen hN
  unfold headP headW at hp
  obtain rfl | rfl | rfl | rfl | rfl | rfl | rfl | rfl | rfl | rfl | rfl | rfl | rfl | rfl | rfl | rfl | rfl : k = 0 ∨ k = 1 ∨ k = 2 ∨ k = 3 ∨ k = 4 ∨ k = 5 ∨ k = 6 ∨ k = 7 ∨ k = 8 ∨ k = 9 ∨ k = 10 ∨ k = 11 ∨ k = 12 ∨ k = 13 ∨ k = 14 ∨ k = 15 ∨ k = 16 := by omega
  all_goals simp only [Int.reduceEq, if_true, if_false, reduceIte, ite_true, ite_false] at hp
  rotate_left 1
  focus
    by_cases n0 : num < 0 <;> by_cases n1 : num = 0 <;> by_cases n2 : byteAt x (m : Nat) = 45
    all_goals first
      | (exfalso; omega)
      | rw [if_pos (by omega)] at hp
      | rw [if_neg (by omega)] at hp
    all_goals try subst n1
  all_goals obtain rfl := hp
  all_goals
    refine ACall.body tab_ok (ρ := 0) (N := 131) Tryz.func13 rfl rfl rfl rfl rfl ?_
    skip
    repeat' first | ((refine (id : AW _ _ _ (.seq (.seq (.region 40 _ _) _) _) _ _ → _) ?_; exact fin _ rfl rfl rfl rfl)) | ((refine And.intro (⟨by omega, by omega⟩ : _ ∧ _) ?_; conv => whnf)) | ((refine cs (fun g => absurd g (by intro g; simp only [cond_false, cond_true, ge_iff_le, gt_iff_lt, decide_eq_true_eq, beq_iff_eq] at g; omega)) (fun _ => ?_); conv => whnf)) | ((refine cs (fun _ => ?_) (fun g => absurd g (by intro g; simp only [cond_false, cond_true, ge_iff_le, gt_iff_lt, decide_eq_false_iff_not, beq_eq_false_iff_ne, ne_eq] at g; omega)); conv => whnf)) | refine AW.seq ?_ | refine AW.block ?_ | ((first | refine AW.region tab_ok ?_ | refine AW.cond ?_ | refine AW.skip ?_ | refine AW.ret ?_ | refine AW.exit ?_); conv => whnf) | (refine (hF).mono ?_; rintro _ _ ⟨rfl, rfl⟩; conv => whnf) | ((first | refine And.intro (@rfl Val _) ?_ | refine And.intro (by decide) ?_ | refine cs (fun _ => ?_) (fun _ => ?_)) <;> conv => whnf)
end Go.Proofs.YtmaokphbfjpodaaGreatDoor.E

/- Walks: ParsePlaces. No conditions. -/
set_option linter.unusedVariables false
set_option linter.unusedSimpArgs false
namespace Go.Proofs.YtmaokphbfjpodaaGreatDoor.E
open Go

structure PpI (n : Nat) where
  i : Nat
  hi : i ≤ n
set_option maxRecDepth 10000 in
set_option maxHeartbeats 2000000 in
theorem law_ParsePlaces (x : ByteArray) : ACall Tryz.prog 4 [.c (.d (.str x))] [] (fun o σ => o = .ret (.c (.d (.bool true))) ∧ σ = []) := by
  have W := wakes04_call
  by_cases hsz : x.size > 16384
  · refine ACall.body tab_ok (ρ := 0) (N := 62) Tryz.func4 rfl rfl rfl rfl rfl ?_
    repeat' first | refine AW.seq ?_ | refine AW.block ?_ | ((first | refine AW.region tab_ok ?_ | refine AW.cond ?_ | refine AW.skip ?_ | refine AW.ret ?_ | refine AW.exit ?_); conv => whnf) | (refine (W).mono ?_; rintro _ _ ⟨rfl, rfl⟩; conv => whnf) | ((first | refine And.intro (@rfl Val _) ?_ | refine And.intro (by decide) ?_ | refine cs (fun _ => ?_) (fun _ => ?_)) <;> conv => whnf)
    all_goals first | exact ⟨rfl, rfl⟩ | (exfalso; simp_all; omega)
  have P := parseTerm_call x
  unfold termO at P
  cases hr : readF x with
  | error y =>
    obtain ⟨e, a, w⟩ := y
    rw [hr] at P
    refine ACall.body tab_ok (ρ := 0) (N := 62) Tryz.func4 rfl rfl rfl rfl rfl ?_
    repeat' first | refine AW.seq ?_ | refine AW.block ?_ | ((first | refine AW.region tab_ok ?_ | refine AW.cond ?_ | refine AW.skip ?_ | refine AW.ret ?_ | refine AW.exit ?_); conv => whnf) | ((first | refine (P).mono ?_ | refine (W).mono ?_); rintro _ _ ⟨rfl, rfl⟩; conv => whnf) | ((first | refine And.intro (@rfl Val _) ?_ | refine And.intro (by decide) ?_ | refine cs (fun _ => ?_) (fun _ => ?_)) <;> conv => whnf)
    all_goals first | exact ⟨rfl, rfl⟩ | (exfalso; simp_all; omega)
  | ok t =>
    rw [hr] at P
    obtain ⟨hc, hn, hb⟩ := read_good hr
    obtain ⟨hP, hN, hB⟩ := read_places hr
    have hm := (tmcheck_ok hc).1
    have C := tmCheck_call t
    rw [hc] at C
    have L : ACall Tryz.prog 13 [t.val, .c (.d (.str x)), .c (.d .nils)] [] (fun o σ => o = .ret (.tup [.c (.own 0 (zints (ats t)).length), .c (.d (.bool true))]) ∧ σ = [.row 3 1 (zints (ats t))]) :=
      ACall.ghost (ys := [t.val, .c (.d (.str x)), .c (.own 0 (zints []).length)]) 3 1 (by decide) ⟨.inl rfl, .inl rfl, .inr ⟨rfl, rfl⟩, trivial⟩ (places_call x (by omega) t hP hn hm [] (by simp; omega))
    have hll : (ats t).length ≤ 8192 := by have := ats_len t; omega
    clear hP hn hb hc hr hm
    generalize ats t = l at *
    have hw1 : IntKind.i64.wrap ((x.size : Int) + 1) = ((x.size + 1 : Nat) : Int) := by rw [wrap64 (by omega) (by omega)]; omega
    have hs0 := zmet_nil (x.size + 1)
    obtain ⟨k, nm, ag, nu, tk, tks, uk, uks, lb, pl, ks⟩ := t
    refine ACall.body tab_ok (ρ := 0) (N := 62) Tryz.func4 rfl rfl rfl rfl rfl ?_
    repeat' first | ((rw [hw1]; conv => whnf)) | refine AW.seq ?_ | refine AW.block ?_ | ((first | refine AW.region tab_ok ?_ | refine AW.cond ?_ | refine AW.skip ?_ | refine AW.ret ?_ | refine AW.exit ?_); conv => whnf) | ((first | refine (P).mono ?_ | refine (C).mono ?_ | refine (L).mono ?_ | refine (W).mono ?_); rintro _ _ ⟨rfl, rfl⟩; conv => whnf) | ((first | refine And.intro (@rfl Val _) ?_ | refine And.intro (by decide) ?_ | refine cs (fun _ => ?_) (fun _ => ?_)) <;> conv => whnf)
    · exact ⟨rfl, rfl⟩
    refine ⟨⟨by omega, Int.le_refl _, by simp only; omega, by omega⟩, ?_⟩
    conv => whnf
    repeat' first | refine AW.seq ?_ | refine AW.block ?_ | ((first | refine AW.region tab_ok ?_ | refine AW.cond ?_ | refine AW.skip ?_ | refine AW.ret ?_ | refine AW.exit ?_); conv => whnf) | (refine (W).mono ?_; rintro _ _ ⟨rfl, rfl⟩; conv => whnf) | ((first | refine And.intro (@rfl Val _) ?_ | refine And.intro (by decide) ?_ | refine cs (fun _ => ?_) (fun _ => ?_)) <;> conv => whnf)
    refine AW.loop (ι := PpI l.length) (fun y => ⟨62, [(8, .c (.d (.int .i64 y.i))), (7, .c (.own 2 (x.size + 1))), (5, .c (.own 1 (zints l).length))],
        [.var ((Tm.node k nm ag nu tk tks uk uks lb pl ks).cells.map .d), .row 3 1 (zints l), .row 3 1 (zints (zmet (l.take y.i) (x.size + 1)))], []⟩)
      (fun y => l.length - y.i) ⟨0, Nat.zero_le _⟩ 3 (fun _ => rfl) (Nat.le_of_ble_eq_true rfl) ⟨⟨rfl, rfl, rfl, trivial⟩, rfl, rfl, ⟨[], by simp only [List.take_zero, hs0]; rfl⟩, rfl⟩ (fun y => ?_)
    obtain ⟨i, hi⟩ := y
    dsimp only
    by_cases hlt : i < l.length
    · obtain ⟨a, ha⟩ : ∃ a, l[i]? = some a := ⟨_, List.getElem?_eq_getElem hlt⟩
      have hBa := hB a (List.mem_of_getElem? ha)
      have hfr := fresh hN ha
      obtain ⟨s, rfl⟩ := Int.eq_ofNat_of_zero_le hBa.1
      have hsS : s < x.size + 1 := by omega
      have htk : l.take (i + 1) = l.take i ++ [(s : Int)] := by rw [List.take_add_one, ha]; rfl
      have hd : decide ((i : Int) < ((zints l).length : Int)) = true := by rw [zints_len]; simp; omega
      have e1 : ∀ row, (zints l)[((i : Nat) : Int).toNat]? = some row → [DV.int .i64 (s : Int)] = row := fun row h => by
        rw [Int.toNat_natCast, zints, List.getElem?_map, ha] at h
        exact Option.some.inj h
      have g0 : (zints l).length = (zints l).length ∧ ((i : Nat) : Int).toNat < (zints l).length := ⟨rfl, by rw [Int.toNat_natCast, zints_len]; exact hlt⟩
      have g1 : (zints l).length = (zints l).length ∧ (0 : Int) ≤ (i : Int) ∧ (i : Int) < ((zints l).length : Nat) := ⟨rfl, by omega, by rw [zints_len]; omega⟩
      have hlen : x.size + 1 = (zints (zmet (l.take i) (x.size + 1))).length := by rw [zints_len, zmet_len]
      have hlen2 : x.size + 1 = (zints (zmet (l.take (i + 1)) (x.size + 1))).length := by rw [zints_len, zmet_len]
      have f2 : x.size + 1 = (zints (zmet (l.take i) (x.size + 1))).length ∧ (0 : Int) ≤ (s : Int) ∧ (s : Int) < ((zints (zmet (l.take i) (x.size + 1))).length : Nat) := ⟨hlen, by omega, by rw [← hlen]; omega⟩
      have f3 : x.size + 1 = (zints (zmet (l.take i) (x.size + 1))).length ∧ (s : Int).toNat < (zints (zmet (l.take i) (x.size + 1))).length := ⟨hlen, by rw [← hlen, Int.toNat_natCast]; omega⟩
      have e2 : ∀ row, (zints (zmet (l.take i) (x.size + 1)))[(s : Int).toNat]? = some row → [DV.int .i64 0] = row := fun row h => by
        rw [Int.toNat_natCast, zints, List.getElem?_map, zmet_get _ _ _ hsS, if_neg hfr] at h
        exact Option.some.inj h
      have hset : (zints (zmet (l.take i) (x.size + 1))).set (s : Int).toNat [DV.int .i64 (IntKind.i64.wrap (0 + 1))] = zints (zmet (l.take (i + 1)) (x.size + 1)) := by
        rw [show IntKind.i64.wrap (0 + 1) = 1 from rfl, Int.toNat_natCast, zints_set, zmet_set _ _ _ hsS, htk]
      have h2 : x.size + 1 = (zints (zmet (l.take (i + 1)) (x.size + 1))).length ∧ (0 : Int) ≤ (s : Int) ∧ (s : Int) < ((zints (zmet (l.take (i + 1)) (x.size + 1))).length : Nat) := ⟨hlen2, by omega, by rw [← hlen2]; omega⟩
      have h3 : x.size + 1 = (zints (zmet (l.take (i + 1)) (x.size + 1))).length ∧ (s : Int).toNat < (zints (zmet (l.take (i + 1)) (x.size + 1))).length := ⟨hlen2, by rw [← hlen2, Int.toNat_natCast]; omega⟩
      have e3 : ∀ row, (zints (zmet (l.take (i + 1)) (x.size + 1)))[(s : Int).toNat]? = some row → [DV.int .i64 1] = row := fun row h => by
        rw [Int.toNat_natCast, zints, List.getElem?_map, zmet_get _ _ _ hsS, htk, if_pos (by simp)] at h
        exact Option.some.inj h
      repeat' first | ((refine cs (fun _ => ?_) (fun g => absurd (hd.symm.trans g) (by decide)); conv => whnf)) | ((refine And.intro g1 ?_; conv => whnf)) | ((refine And.intro g0 fun row hrow => ?_; obtain rfl := e1 row hrow; conv => whnf)) | ((refine And.intro f2 ?_; conv => whnf)) | ((refine And.intro f3 fun row hrow => ?_; obtain rfl := e2 row hrow; conv => whnf)) | ((refine And.intro f3 ?_; conv => whnf)) | ((rw [hset]; refine And.intro h2 ?_; conv => whnf)) | ((rw [hset]; refine And.intro h3 fun row hrow => ?_; obtain rfl := e3 row hrow; conv => whnf)) | ((refine And.intro h3 fun row hrow => ?_; obtain rfl := e3 row hrow; conv => whnf)) | refine AW.seq ?_ | refine AW.block ?_ | ((first | refine AW.region tab_ok ?_ | refine AW.cond ?_ | refine AW.skip ?_ | refine AW.ret ?_ | refine AW.exit ?_); conv => whnf) | ((first | refine And.intro (@rfl Val _) ?_ | refine And.intro (by decide) ?_ | refine cs (fun _ => ?_) (fun _ => ?_)) <;> conv => whnf)
      rw [wrap64 (x := (i : Int) + 1) (by omega) (by omega)]
      first | exact ⟨⟨i + 1, hlt⟩, ⟨⟨rfl, rfl, rfl, trivial⟩, rfl, rfl, ⟨[], by simp only [← hset]; rfl⟩, rfl⟩, show l.length - (i + 1) < l.length - i by omega⟩
    · have hd : decide ((i : Int) < ((zints l).length : Int)) = false := by rw [zints_len]; simp; omega
      repeat' first | ((refine cs (fun g => absurd (hd.symm.trans g) (by decide)) (fun _ => ?_); conv => whnf)) | refine AW.seq ?_ | refine AW.block ?_ | ((first | refine AW.region tab_ok ?_ | refine AW.cond ?_ | refine AW.skip ?_ | refine AW.ret ?_ | refine AW.exit ?_); conv => whnf) | (refine (W).mono ?_; rintro _ _ ⟨rfl, rfl⟩; conv => whnf) | ((first | refine And.intro (@rfl Val _) ?_ | refine And.intro (by decide) ?_ | refine cs (fun _ => ?_) (fun _ => ?_)) <;> conv => whnf)
      all_goals first | exact ⟨rfl, rfl⟩
end Go.Proofs.YtmaokphbfjpodaaGreatDoor.E

/- From a row's reading of an argument to a tree. No conditions. -/
set_option linter.unusedVariables false
set_option linter.unusedSimpArgs false
namespace Go.Proofs.YtmaokphbfjpodaaGreatDoor.E
open Go Go.RowKit

/-- All that was there is one region. -/
def rgAll (w : World) : Nat → Option Nat := fun b => if b < w.heap.size then some 0 else none
def czAll (w : World) : Cz := ⟨[], rgAll w⟩
theorem inv_all (w : World) (hg : GlobOk w (czAll w) := by intro a v h; simp [globs] at h) : Inv w (czAll w) [] :=
  ⟨rfl, fun i o e h => by simp at h, fun i o e b h => by simp at h, fun i j o p e f b h => by simp at h, fun b r h => (by
    simp only [czAll, rgAll] at h
    split at h
    · assumption
    · cases h), hg⟩

section
variable {H : Type} {enc : TypeId × Value → H} {w : World} {base : Nat} {spare : Nat → Bool} {held : Bool}

end

end Go.Proofs.YtmaokphbfjpodaaGreatDoor.E

/- From a law's walk to its row: parts for all rows. No conditions. -/
namespace Go.Proofs.YtmaokphbfjpodaaGreatDoor.E
open Go Go.RowKit

theorem rep1 {w : World} {C : Cz} {u : Value} {x : Val} (h : RepV w C u x) : RepVs w C #[u].toList [x] := .cons h ⟨rfl, fun i v x h => by simp at h⟩
/-- A law that is true: as a call. -/
theorem law_true {P : Program} {f : FuncId} {args : List Val} (h : ACall P f args [] (fun o σ => o = .ret (.c (.d (.bool true))) ∧ σ = [])) {w : World} {vs : Array Value} (hv : RepVs w (czAll w) vs.toList args) (hg : GlobOk w (czAll w) := by intro a v h; simp [globs] at h) :
    Calls P f vs w fun e w' => e = .returned (.bool true) ∧ Below w.heap.size w w' :=
  (h.out w (czAll w) vs (inv_all w hg) hv).mono fun e w' ⟨o, σ', C', ⟨ho, hs⟩, hI, hX, hO⟩ => by
    subst ho; subst hs
    obtain ⟨v, rfl, hr⟩ := hO
    have := bool_of hr
    subst this
    exact ⟨rfl, hX.os, hX.tape, hX.output, hX.size, fun k hk => hX.frame k hk (fun ⟨i, o, e, h, _⟩ => by simp at h) (fun r hr => by simp only [czAll, rgAll] at hr; rw [if_pos hk] at hr; cases hr; rfl)⟩
end Go.Proofs.YtmaokphbfjpodaaGreatDoor.E

/- From a row's reading of a term to a tree. No conditions. -/
set_option linter.unusedVariables false
set_option linter.unusedSimpArgs false
namespace Go.Proofs.YtmaokphbfjpodaaGreatDoor.E
open Go Go.RowKit

theorem u9 : Tryz.prog.underlying 9 = some .string := by kernel_rfl
theorem u2 : Tryz.prog.underlying 2 = some (.int .i64) := by kernel_rfl
theorem c2 : Tryz.prog.cellsOf 2 = 1 := by kernel_rfl
theorem c3 : Tryz.prog.cellsOf 3 = 1 := by kernel_rfl
section
variable {H : Type} {enc : TypeId × Value → H} {w : World} {base : Nat} {spare : Nat → Bool} {held : Bool}
end
end Go.Proofs.YtmaokphbfjpodaaGreatDoor.E
