/- Walks: defs.Needs, the document's, the law DefsNeeds. No conditions. -/
import Derived.Test.YthmbncehoblgpaaGreatDoorDf4
import Derived.Test.YthmbncehoblgpaaGreatDoorDf5
import Derived.Test.YthmbncehoblgpaaGreatDoorAs2
import Derived.Test.YthmbncehoblgpaaGreatDoorEngX3
set_option linter.unusedVariables false
set_option linter.unusedSimpArgs false
namespace Go.Proofs.YthmbncehoblgpaaGreatDoor.E
open Go

theorem soundF_ok {l : List Df} {main : ByteArray} (h : (soundF l main).2.1 = 0) : l.length ≤ 256 ∧ Uniq l ∧ (∀ d ∈ l, errD d = 0) ∧ ∃ (k : Nat) (d : Df), l[k]? = some d ∧ d.name = main ∧ soundF l main = ((k : Int), 0, 0, noB) := by
  by_cases hl : l.length > 256
  · rw [soundF_long hl] at h; cases h
  by_cases hb : ∀ j, j < l.length → badAt l j = false
  · by_cases he : ∀ j, j < l.length → errAt l j = 0
    · have hend := soundF_end (main := main) hl hb he
      by_cases hz : nix main 0 l = 0
      · rw [hend, if_pos hz] at h; cases h
      · obtain ⟨k, d, h1, h2, h3, h4⟩ := nix_pos hz
        refine ⟨by omega, soundF_uniq hb, fun d hd => ?_, k, d, h1, h2, ?_⟩
        · obtain ⟨j, hj⟩ := List.getElem?_of_mem hd
          have := he j (List.getElem?_eq_some_iff.1 hj).1
          simpa [errAt, hj] using this
        · rw [hend, if_neg hz, h3]
          congr 1
          omega
    · exfalso
      simp only [Classical.not_forall] at he
      obtain ⟨j, hj, hne⟩ := he
      have hx : ∃ i : Nat, i < l.length ∧ errAt l i ≠ 0 ∧ ∀ q, q < i → errAt l q = 0 := by
        induction j using Nat.strongRecOn with
        | _ j ih =>
          by_cases hq : ∀ q, q < j → errAt l q = 0
          · exact ⟨j, hj, hne, hq⟩
          · simp only [Classical.not_forall] at hq
            obtain ⟨q, hq1, hq2⟩ := hq
            exact ih q hq1 (by omega) hq2
      obtain ⟨i, hi, h1, h2⟩ := hx
      obtain ⟨d, hd⟩ : ∃ d, l[i]? = some d := ⟨_, List.getElem?_eq_getElem hi⟩
      have e : errAt l i = errD d := by simp [errAt, hd]
      rw [soundF_err hl hb hd (by rw [← e]; exact h1) h2] at h
      exact h1 (e.trans h)
  · exfalso
    simp only [Classical.not_forall] at hb
    obtain ⟨j, hj, hne⟩ := hb
    have hx : ∃ i : Nat, i < l.length ∧ badAt l i = true ∧ ∀ q, q < i → badAt l q = false := by
      induction j using Nat.strongRecOn with
      | _ j ih =>
        by_cases hq : ∀ q, q < j → badAt l q = false
        · exact ⟨j, hj, by simpa using hne, hq⟩
        · simp only [Classical.not_forall] at hq
          obtain ⟨q, hq1, hq2⟩ := hq
          exact ih q hq1 (by omega) hq2
    obtain ⟨i, hi, h1, h2⟩ := hx
    obtain ⟨d, hd⟩ : ∃ d, l[i]? = some d := ⟨_, List.getElem?_eq_getElem hi⟩
    rw [soundF_bad hl hd h1 h2] at h
    cases h
noncomputable def needT (l : List Df) (k : Nat) : Nat → List ByteArray
  | 0 => []
  | n + 1 => needT l k n ++ (if isR l k n = true then [nameAt l n] else [])
theorem needT_len (l : List Df) (k : Nat) : ∀ n, (needT l k n).length ≤ n
  | 0 => Nat.le_refl _
  | n + 1 => by
    have := needT_len l k n
    simp only [needT, List.length_append]
    split <;> simp <;> omega
def needsE (l : List Df) (name : ByteArray) : Int := (soundF l name).2.1
noncomputable def needsN (l : List Df) (name : ByteArray) : List ByteArray := if needsE l name = 0 then needT l (soundF l name).1.toNat (soundF l name).1.toNat else []
structure NdI (l : List Df) where
  n : Nat
  hn : n ≤ l.length
set_option maxRecDepth 10000 in
theorem Needs_call (l : List Df) (name : ByteArray) : ACall Tryz.prog 5 [.c (.d (.sl 0 15 (drows l))), .c (.d (.str name))] [] (fun o σ => o = .ret (.tup [.c (.d (.sl 0 1 (strs (needsN l name)))), .c (.d (.int .i64 (needsE l name)))]) ∧ σ = []) := by
  have c1 := sound_call l name
  by_cases hz : needsE l name = 0
  · obtain ⟨hl, hu, _, k, d, hd, hn, hs⟩ := soundF_ok hz
    have hk := (List.getElem?_eq_some_iff.1 hd).1
    have hN : needsN l name = needT l k k := by rw [needsN, if_pos hz, hs]; rfl
    rw [hz, hN]
    rw [hs] at c1
    have c2 := needed_call l k hk hl hu
    have hB : ∀ (i : Nat) row, (brows (needB l k))[i]? = some row → row = [.bool (isR l k i)] := fun i row h => by
      obtain ⟨b, h1, rfl⟩ := brows_get h
      simp only [needB, List.getElem?_map] at h1
      by_cases hi : i < l.length
      · rw [List.getElem?_range hi] at h1; cases h1; rfl
      · rw [List.getElem?_eq_none (by simpa using hi)] at h1; cases h1
    have hBl : (brows (needB l k)).length = l.length := by simp [brows_len, needB]
    have hc := asN_call
    clear hz hN hs
    generalize brows (needB l k) = B at *
    refine ACall.body tab_ok (ρ := 0) (N := 50) Tryz.func5 rfl rfl rfl rfl rfl ?_
    repeat' first | refine AW.seq ?_ | refine AW.block ?_ | (refine (_root_.id : AW _ _ _ (.region 4 _ true) _ _ → _) ?_; refine AW.draw (id := 4) tab_ok mixed [0, 1, 2, 3, 4, 5] (by kernel_rfl) ?_; conv => whnf) | ((first | refine AW.region tab_ok ?_ | refine AW.cond ?_ | refine AW.skip ?_ | refine AW.ret ?_ | refine AW.exit ?_); conv => whnf) | ((first | refine (c1).mono ?_ | refine (c2).mono ?_ | refine (hc).mono ?_); rintro _ _ ⟨rfl, rfl⟩; conv => whnf) | ((first | refine And.intro (@rfl Val _) ?_ | refine And.intro (by decide) ?_ | refine cs (fun _ => ?_) (fun _ => ?_)) <;> conv => whnf)
    refine AW.ghostE 9 1 9 (by decide) rfl ?_
    refine AW.loop (ι := NdI l) (fun x => ⟨50, [(29, .c (.d (.int .i64 x.n))), (28, .c (.d (.int .i64 B.length))), (27, .c (.d (.sl 0 1 B))), (9, .c (.own 1 (strs (needT l k (min x.n k))).length)), (6, .c (.d (.int .i64 k))), (0, .c (.d (.sl 0 15 (drows l))))], [.var [.d .nilp], .row 9 1 (strs (needT l k (min x.n k)))], []⟩)
      (fun x => l.length - x.n) ⟨0, Nat.zero_le _⟩ 2 (fun _ => rfl) (Nat.le_of_ble_eq_true rfl) ⟨⟨rfl, rfl, rfl, by simp [needT, strs]; rfl, rfl, rfl, trivial⟩, rfl, rfl, ⟨[], by simp [needT, strs]⟩, rfl⟩ (fun x => ?_)
    obtain ⟨n, hn⟩ := x
    have hnl := needT_len l k (min n k)
    repeat' first | refine AW.seq ?_ | refine AW.block ?_ | (refine (_root_.id : AW _ _ _ (.region 4 _ true) _ _ → _) ?_; refine AW.draw (id := 4) tab_ok mixed [0, 1, 2, 3, 4, 5] (by kernel_rfl) ?_; conv => whnf) | ((first | refine AW.region tab_ok ?_ | refine AW.cond ?_ | refine AW.skip ?_ | refine AW.ret ?_ | refine AW.exit ?_); conv => whnf) | ((first | refine And.intro (@rfl Val _) ?_ | refine And.intro (by decide) ?_ | refine cs (fun _ => ?_) (fun _ => ?_)) <;> conv => whnf)
    · rename_i h
      have := of_decide_eq_true h
      simp only [hBl] at this
      refine ⟨by simp only; omega, fun row hr => ?_⟩
      obtain rfl := hB n row (by simpa using hr)
      have hnlt : n < l.length := by omega
      obtain ⟨d, hd⟩ : ∃ d, l[n]? = some d := ⟨_, List.getElem?_eq_getElem hnlt⟩
      have hrow2 : (drows l)[n]? = some d.cells := by simp [drows, hd]
      have hnm : nameAt l n = d.name := by simp [nameAt, hd]
      have hstep : ∀ (b : Bool), isR l k n = b → n < k → needT l k (min (n + 1) k) = needT l k (min n k) ++ (if b = true then [d.name] else []) := fun b hb hlt => by
        rw [Nat.min_eq_left (by omega), Nat.min_eq_left (by omega), needT, hnm, hb]
      have hstay : ¬ n < k → needT l k (min (n + 1) k) = needT l k (min n k) := fun h => by
        rw [Nat.min_eq_right (by omega), Nat.min_eq_right (by omega)]
      obtain ⟨s, ⟨a, bs⟩, ⟨q, name, arg, num, tk, tks, uk, uks, label, place, ks⟩, pl⟩ := d
      simp only at hstep
      generalize isR l k n = b at *
      by_cases hlt : n < k
      · have hltb : decide ((n : Int) < (k : Int)) = true := by simp [hlt]
        replace hstep := hstep b rfl hlt
        conv => whnf
        repeat' first | ((refine ⟨by rw [drows_len]; simp only; omega, fun row hr => ?_⟩; obtain rfl := Option.some.inj (hrow2.symm.trans hr); conv => whnf)) | refine AW.seq ?_ | refine AW.block ?_ | (refine (_root_.id : AW _ _ _ (.region 4 _ true) _ _ → _) ?_; refine AW.draw (id := 4) tab_ok mixed [0, 1, 2, 3, 4, 5] (by kernel_rfl) ?_; conv => whnf) | ((first | refine AW.region tab_ok ?_ | refine AW.cond ?_ | refine AW.skip ?_ | refine AW.ret ?_ | refine AW.exit ?_); conv => whnf) | ((first | refine And.intro (@rfl Val _) ?_ | refine And.intro (by decide) ?_ | refine cs (fun _ => ?_) (fun _ => ?_)) <;> conv => whnf)
        · rename_i hb _
          have e1 : strs (needT l k (min n k)) ++ [[.str s]] = strs (needT l k (min (n + 1) k)) := by rw [hstep, if_pos hb, strs_app]; rfl
          have e2 : (strs (needT l k (min n k))).length + [[DV.str s]].length = (strs (needT l k (min (n + 1) k))).length := by rw [← e1, List.length_append]
          refine ⟨⟨rfl, ?_, ?_⟩, ?_⟩
          · simp only [strs_len, List.length_cons, List.length_nil]; omega
          · simp only [strs_len, List.length_cons, List.length_nil]; omega
          conv => whnf
          repeat' first | refine AW.seq ?_ | refine AW.block ?_ | (refine (_root_.id : AW _ _ _ (.region 4 _ true) _ _ → _) ?_; refine AW.draw (id := 4) tab_ok mixed [0, 1, 2, 3, 4, 5] (by kernel_rfl) ?_; conv => whnf) | ((first | refine AW.region tab_ok ?_ | refine AW.cond ?_ | refine AW.skip ?_ | refine AW.ret ?_ | refine AW.exit ?_); conv => whnf) | ((first | refine And.intro (@rfl Val _) ?_ | refine And.intro (by decide) ?_ | refine cs (fun _ => ?_) (fun _ => ?_)) <;> conv => whnf)
          rw [e2, e1, wrap64 (x := (n : Int) + 1) (by omega) (by omega)]
          exact ⟨⟨n + 1, hnlt⟩, ⟨⟨rfl, rfl, rfl, rfl, rfl, rfl, trivial⟩, rfl, rfl, ⟨[], rfl⟩, rfl⟩, show l.length - (n + 1) < l.length - n by omega⟩
        · rename_i h
          exact absurd (show (bif true then decide ((n : Int) < (k : Int)) else false) = true from hltb) (by rw [h]; decide)
        · rename_i hb
          have e : needT l k (min (n + 1) k) = needT l k (min n k) := by rw [hstep, if_neg (by rw [hb]; decide), List.append_nil]
          rw [wrap64 (x := (n : Int) + 1) (by omega) (by omega)]
          simp only [← e]
          exact ⟨⟨n + 1, hnlt⟩, ⟨⟨rfl, rfl, rfl, rfl, rfl, rfl, trivial⟩, rfl, rfl, ⟨[], rfl⟩, rfl⟩, show l.length - (n + 1) < l.length - n by omega⟩
      · have hltb : decide ((n : Int) < (k : Int)) = false := by simp; omega
        have e := hstay hlt
        conv => whnf
        repeat' first | refine AW.seq ?_ | refine AW.block ?_ | (refine (_root_.id : AW _ _ _ (.region 4 _ true) _ _ → _) ?_; refine AW.draw (id := 4) tab_ok mixed [0, 1, 2, 3, 4, 5] (by kernel_rfl) ?_; conv => whnf) | ((first | refine AW.region tab_ok ?_ | refine AW.cond ?_ | refine AW.skip ?_ | refine AW.ret ?_ | refine AW.exit ?_); conv => whnf) | ((first | refine And.intro (@rfl Val _) ?_ | refine And.intro (by decide) ?_ | refine cs (fun _ => ?_) (fun _ => ?_)) <;> conv => whnf)
        · rename_i hb h
          exact absurd (show (bif true then decide ((n : Int) < (k : Int)) else false) = false from hltb) (by rw [h]; decide)
        all_goals
          rw [wrap64 (x := (n : Int) + 1) (by omega) (by omega)]
          simp only [← e]
          exact ⟨⟨n + 1, hnlt⟩, ⟨⟨rfl, rfl, rfl, rfl, rfl, rfl, trivial⟩, rfl, rfl, ⟨[], rfl⟩, rfl⟩, show l.length - (n + 1) < l.length - n by omega⟩
    · rename_i h
      have := of_decide_eq_false h
      simp only [hBl] at this
      obtain rfl : n = l.length := by omega
      have e3 : needT l k k = needT l k (min l.length k) := by rw [Nat.min_eq_right (by omega)]
      rw [e3]
      refine ⟨rfl, ?_⟩
      conv => whnf
      exact ⟨rfl, rfl⟩
  · have hN : needsN l name = [] := if_neg hz
    rw [hN]
    have hz' : ¬ (soundF l name).2.1 = 0 := hz
    rw [errV, if_neg hz'] at c1
    have e : needsE l name = (soundF l name).2.1 := rfl
    rw [e]
    clear hz hN e
    generalize soundF l name = F at *
    obtain ⟨k, c, a, w⟩ := F
    simp only at c1 hz' ⊢
    have hc := as_call [.int .i64 c, .int .i64 a, .str w]
    refine ACall.body tab_ok (ρ := 0) (N := 50) Tryz.func5 rfl rfl rfl rfl rfl ?_
    repeat' first | refine AW.seq ?_ | refine AW.block ?_ | (refine (_root_.id : AW _ _ _ (.region 4 _ true) _ _ → _) ?_; refine AW.draw (id := 4) tab_ok mixed [0, 1, 2, 3, 4, 5] (by kernel_rfl) ?_; conv => whnf) | ((first | refine AW.region tab_ok ?_ | refine AW.cond ?_ | refine AW.skip ?_ | refine AW.ret ?_ | refine AW.exit ?_); conv => whnf) | ((first | refine (c1).mono ?_ | refine (hc).mono ?_); rintro _ _ ⟨rfl, rfl⟩; conv => whnf) | ((first | refine And.intro (@rfl Val _) ?_ | refine And.intro (by decide) ?_ | refine cs (fun _ => ?_) (fun _ => ?_)) <;> conv => whnf)
    exact ⟨rfl, rfl⟩
structure RdI (k : Nat) where
  n : Nat
  hn : n ≤ k
set_option maxRecDepth 10000 in
theorem rNeeds_call (l : List Df) (name : ByteArray) : ACall Tryz.prog 6 [.c (.d (.sl 0 15 (drows l))), .c (.d (.str name))] [] (fun o σ => o = .ret (.tup [.c (.d (.sl 0 1 (strs (needsN l name)))), .c (.d (.int .i64 (needsE l name)))]) ∧ σ = []) := by
  have c1 := rsound_call l name
  by_cases hz : needsE l name = 0
  · obtain ⟨hl, hu, _, k, d, hd, hn, hs⟩ := soundF_ok hz
    have hk := (List.getElem?_eq_some_iff.1 hd).1
    have hN : needsN l name = needT l k k := by rw [needsN, if_pos hz, hs]; rfl
    rw [hz, hN]
    rw [hs] at c1
    have c2 := rneeded_call l k hk hl
    have hB : ∀ (i : Nat) row, (brows (needB l k))[i]? = some row → row = [.bool (isR l k i)] := fun i row h => by
      obtain ⟨b, h1, rfl⟩ := brows_get h
      simp only [needB, List.getElem?_map] at h1
      by_cases hi : i < l.length
      · rw [List.getElem?_range hi] at h1; cases h1; rfl
      · rw [List.getElem?_eq_none (by simpa using hi)] at h1; cases h1
    have hBl : (brows (needB l k)).length = l.length := by simp [brows_len, needB]
    clear hz hN hs
    generalize brows (needB l k) = B at *
    unfold fltV at c1
    refine ACall.body tab_ok (ρ := 0) (N := 43) Tryz.func6 rfl rfl rfl rfl rfl ?_
    repeat' first | refine AW.seq ?_ | refine AW.block ?_ | (refine (_root_.id : AW _ _ _ (.region 3 _ true) _ _ → _) ?_; refine AW.draw (id := 3) tab_ok mixed [0, 1, 2, 3] (by kernel_rfl) ?_; conv => whnf) | ((first | refine AW.region tab_ok ?_ | refine AW.cond ?_ | refine AW.skip ?_ | refine AW.ret ?_ | refine AW.exit ?_); conv => whnf) | ((first | refine (c1).mono ?_ | refine (c2).mono ?_); rintro _ _ ⟨rfl, rfl⟩; conv => whnf) | ((first | refine And.intro (@rfl Val _) ?_ | refine And.intro (by decide) ?_ | refine cs (fun _ => ?_) (fun _ => ?_)) <;> conv => whnf)
    refine AW.ghostE 9 1 9 (by decide) rfl ?_
    refine AW.loop (ι := RdI k) (fun x => ⟨43, [(10, .c (.d (.int .i64 x.n))), (8, .c (.d (.sl 0 1 B))), (9, .c (.own 1 (strs (needT l k x.n)).length)), (6, .c (.d (.int .i64 k))), (0, .c (.d (.sl 0 15 (drows l))))], [.var [.d (.int .i64 0), .d (.int .i64 0), .d (.str noB)], .row 9 1 (strs (needT l k x.n))], []⟩)
      (fun x => k - x.n) ⟨0, Nat.zero_le _⟩ 2 (fun _ => rfl) (Nat.le_of_ble_eq_true rfl) ⟨⟨rfl, rfl, by simp [needT, strs]; rfl, rfl, rfl, trivial⟩, rfl, rfl, ⟨[], by simp [needT, strs]⟩, rfl⟩ (fun x => ?_)
    obtain ⟨n, hn⟩ := x
    have hnl := needT_len l k n
    repeat' first | refine AW.seq ?_ | refine AW.block ?_ | (refine (_root_.id : AW _ _ _ (.region 3 _ true) _ _ → _) ?_; refine AW.draw (id := 3) tab_ok mixed [0, 1, 2, 3] (by kernel_rfl) ?_; conv => whnf) | ((first | refine AW.region tab_ok ?_ | refine AW.cond ?_ | refine AW.skip ?_ | refine AW.ret ?_ | refine AW.exit ?_); conv => whnf) | ((first | refine And.intro (@rfl Val _) ?_ | refine And.intro (by decide) ?_ | refine cs (fun _ => ?_) (fun _ => ?_)) <;> conv => whnf)
    · rename_i h
      have := of_decide_eq_true h
      have hnk : n < k := by simp only at this; omega
      refine ⟨by simp only; omega, fun row hr => ?_⟩
      obtain rfl := hB n row (by simpa using hr)
      have hnlt : n < l.length := by omega
      obtain ⟨d, hd⟩ : ∃ d, l[n]? = some d := ⟨_, List.getElem?_eq_getElem hnlt⟩
      have hrow2 : (drows l)[n]? = some d.cells := by simp [drows, hd]
      have hnm : nameAt l n = d.name := by simp [nameAt, hd]
      have hstep : needT l k (n + 1) = needT l k n ++ (if isR l k n = true then [d.name] else []) := by rw [needT, hnm]
      obtain ⟨s, ⟨a, bs⟩, ⟨q, name, arg, num, tk, tks, uk, uks, label, place, ks⟩, pl⟩ := d
      simp only at hstep
      generalize isR l k n = b at *
      conv => whnf
      repeat' first | ((refine ⟨by rw [drows_len]; simp only; omega, fun row hr => ?_⟩; obtain rfl := Option.some.inj (hrow2.symm.trans hr); conv => whnf)) | refine AW.seq ?_ | refine AW.block ?_ | (refine (_root_.id : AW _ _ _ (.region 3 _ true) _ _ → _) ?_; refine AW.draw (id := 3) tab_ok mixed [0, 1, 2, 3] (by kernel_rfl) ?_; conv => whnf) | ((first | refine AW.region tab_ok ?_ | refine AW.cond ?_ | refine AW.skip ?_ | refine AW.ret ?_ | refine AW.exit ?_); conv => whnf) | ((first | refine And.intro (@rfl Val _) ?_ | refine And.intro (by decide) ?_ | refine cs (fun _ => ?_) (fun _ => ?_)) <;> conv => whnf)
      · rename_i hb
        have e1 : strs (needT l k n) ++ [[.str s]] = strs (needT l k (n + 1)) := by rw [hstep, if_pos hb, strs_app]; rfl
        have e2 : (strs (needT l k n)).length + [[DV.str s]].length = (strs (needT l k (n + 1))).length := by rw [← e1, List.length_append]
        refine ⟨⟨rfl, ?_, ?_⟩, ?_⟩
        · simp only [strs_len, List.length_cons, List.length_nil]; omega
        · simp only [strs_len, List.length_cons, List.length_nil]; omega
        conv => whnf
        repeat' first | refine AW.seq ?_ | refine AW.block ?_ | (refine (_root_.id : AW _ _ _ (.region 3 _ true) _ _ → _) ?_; refine AW.draw (id := 3) tab_ok mixed [0, 1, 2, 3] (by kernel_rfl) ?_; conv => whnf) | ((first | refine AW.region tab_ok ?_ | refine AW.cond ?_ | refine AW.skip ?_ | refine AW.ret ?_ | refine AW.exit ?_); conv => whnf) | ((first | refine And.intro (@rfl Val _) ?_ | refine And.intro (by decide) ?_ | refine cs (fun _ => ?_) (fun _ => ?_)) <;> conv => whnf)
        rw [e2, e1, wrap64 (x := (n : Int) + 1) (by omega) (by omega)]
        exact ⟨⟨n + 1, hnk⟩, ⟨⟨rfl, rfl, rfl, rfl, rfl, trivial⟩, rfl, rfl, ⟨[], rfl⟩, rfl⟩, show k - (n + 1) < k - n by omega⟩
      · rename_i hb
        have e : needT l k (n + 1) = needT l k n := by rw [hstep, if_neg (by rw [hb]; decide), List.append_nil]
        rw [wrap64 (x := (n : Int) + 1) (by omega) (by omega)]
        simp only [← e]
        exact ⟨⟨n + 1, hnk⟩, ⟨⟨rfl, rfl, rfl, rfl, rfl, trivial⟩, rfl, rfl, ⟨[], rfl⟩, rfl⟩, show k - (n + 1) < k - n by omega⟩
    · rename_i h
      have := of_decide_eq_false h
      obtain rfl : n = k := by simp only at this; omega
      refine ⟨rfl, ?_⟩
      conv => whnf
      exact ⟨rfl, rfl⟩
  · have hN : needsN l name = [] := if_neg hz
    rw [hN]
    have hz' : ¬ (soundF l name).2.1 = 0 := hz
    have e : needsE l name = (soundF l name).2.1 := rfl
    rw [e]
    clear hz hN e
    generalize soundF l name = F at *
    obtain ⟨k, c, a, w⟩ := F
    simp only at c1 hz' ⊢
    have hb : (c != 0) = true := bne_iff_ne.2 hz'
    unfold fltV at c1
    refine ACall.body tab_ok (ρ := 0) (N := 43) Tryz.func6 rfl rfl rfl rfl rfl ?_
    repeat' first | ((rw [hb]; conv => whnf)) | refine AW.seq ?_ | refine AW.block ?_ | (refine (_root_.id : AW _ _ _ (.region 3 _ true) _ _ → _) ?_; refine AW.draw (id := 3) tab_ok mixed [0, 1, 2, 3] (by kernel_rfl) ?_; conv => whnf) | ((first | refine AW.region tab_ok ?_ | refine AW.cond ?_ | refine AW.skip ?_ | refine AW.ret ?_ | refine AW.exit ?_); conv => whnf) | (refine (c1).mono ?_; rintro _ _ ⟨rfl, rfl⟩; conv => whnf) | ((first | refine And.intro (@rfl Val _) ?_ | refine And.intro (by decide) ?_ | refine cs (fun _ => ?_) (fun _ => ?_)) <;> conv => whnf)
    all_goals exact ⟨rfl, rfl⟩
set_option maxRecDepth 10000 in
theorem law_DefsNeeds (l : List Df) (name : ByteArray) : ACall Tryz.prog 3 [.c (.d (.sl 0 15 (drows l))), .c (.d (.str name))] [] (fun o σ => o = .ret (.c (.d (.bool true))) ∧ σ = []) := by
  have c1 := Needs_call l name
  have c2 := rNeeds_call l name
  have hlen : (needsN l name).length ≤ 256 := by
    unfold needsN
    split
    · rename_i hz
      obtain ⟨hl, hu, _, k, d, hd, hn, hs⟩ := soundF_ok hz
      have hk := (List.getElem?_eq_some_iff.1 hd).1
      rw [hs]
      have := needT_len l k k
      simp only [Int.toNat_natCast]
      omega
    · simp
  have c3 := names_call (needsN l name) (by omega)
  generalize needsN l name = ns at *
  generalize needsE l name = e at *
  have he : (e == e) = true := by simp
  refine ACall.body tab_ok (ρ := 0) (N := 29) Tryz.func3 rfl rfl rfl rfl rfl ?_
  repeat' first | ((rw [he]; conv => whnf)) | refine AW.seq ?_ | refine AW.block ?_ | ((first | refine AW.region tab_ok ?_ | refine AW.cond ?_ | refine AW.skip ?_ | refine AW.ret ?_ | refine AW.exit ?_); conv => whnf) | ((first | refine (c1).mono ?_ | refine (c2).mono ?_ | refine (c3).mono ?_); rintro _ _ ⟨rfl, rfl⟩; conv => whnf) | ((first | refine And.intro (@rfl Val _) ?_ | refine And.intro (by decide) ?_ | refine cs (fun _ => ?_) (fun _ => ?_)) <;> conv => whnf)
  all_goals first | exact ⟨rfl, rfl⟩
end Go.Proofs.YthmbncehoblgpaaGreatDoor.E
