/- Walk: order.open. No conditions. -/
import Derived.Test.YtdhkopangbgehaaTm15
set_option linter.unusedVariables false
set_option linter.unusedSimpArgs false
namespace Go.Proofs.Ytdhkopangbgehaa.E
open Go

/-- What open tells. -/
def openR (t : Tm) (o : Out) (σ : List AObj) : Prop := ∃ m : Tm, (tmhas 17 t = false → m = tmopen t) ∧ o = .ret (.tup [m.val, .c (.d (.bool (!tmhas 17 t)))]) ∧ σ = []
set_option maxRecDepth 10000 in
theorem open_call (t : Tm) : tmN t ≤ 8192 → ACall Try.prog 97 [t.val] [] (openR t) := by
  induction t using Tm.ind with
  | _ k name arg num tk tks uk uks label place ks ih =>
  intro hN
  have hlen := tmNL_len ks
  simp only [tmN] at hN
  have ih' : ∀ t ∈ ks, ACall Try.prog 97 [t.val] [] (openR t) := fun t ht => ih t ht (by have := tmN_mem ks t ht; omega)
  have e : tmhas 17 (.node k name arg num tk tks uk uks label place ks) = (decide (k = 17) || tmhass 17 ks) := rfl
  refine ACall.body tab_ok (ρ := 0) (N := 44) Try.func97 rfl rfl rfl rfl rfl ?_
  repeat' first
    | refine AW.seq ?_
    | refine AW.block ?_
    | (refine AW.region tab_ok ?_; conv => whnf)
    | (refine AW.cond ?_; conv => whnf)
    | (refine AW.skip ?_; conv => whnf)
    | (refine AW.ret ?_; conv => whnf)
    | (refine AW.exit ?_; conv => whnf)
    | (refine And.intro (@rfl Val _) ?_; conv => whnf)
    | (refine And.intro (by decide) ?_; conv => whnf)
    | (refine cs (fun _ => ?_) (fun _ => ?_) <;> conv => whnf)
  · rename_i h
    have h : k = 17 := by simpa using h
    refine ⟨.node k name arg num tk tks uk uks label place ks, fun hh => ?_, ?_, rfl⟩
    · rw [e, h] at hh; simp at hh
    · rw [e, h]; rfl
  · rename_i h
    have h : k ≠ 17 := by simpa using h
    have e : tmhas 17 (.node k name arg num tk tks uk uks label place ks) = tmhass 17 ks := by rw [e]; simp [h]
    refine ⟨⟨by simp only [trows_length]; omega, by simp only [trows_length]; omega, by simp only [trows_length]; omega⟩, ?_⟩
    conv => whnf
    repeat' first
      | refine AW.seq ?_
      | refine AW.block ?_
      | (refine AW.region tab_ok ?_; conv => whnf)
      | (refine AW.cond ?_; conv => whnf)
      | (refine AW.skip ?_; conv => whnf)
      | (refine AW.ret ?_; conv => whnf)
      | (refine AW.exit ?_; conv => whnf)
      | (refine And.intro (@rfl Val _) ?_; conv => whnf)
      | (refine And.intro (by decide) ?_; conv => whnf)
      | (refine cs (fun _ => ?_) (fun _ => ?_) <;> conv => whnf)
    refine AW.loop (ι := TmHasI 17 ks) (fun x => ⟨44, [(24, .c (.d (.int .i64 x.i))), (23, .c (.d (.int .i64 (Tm.rows ks).length))), (22, .c (.d (.sl 0 11 (Tm.rows ks)))), (4, .c (.own 2 (Tm.rows ((tmopens ks).take x.i)).length)), (1, .c (.ptr 0 0)), (2, .c (.ptr 1 0))], [.var [.d (.int .i8 k), .d (.str name), .d (.str arg), .d (.int .i64 num), .d (.int .i8 0), .d .nils, .d (.int .i8 0), .d .nils, .d (.int .i64 label), .d (.int .i64 place), .d (.sl 0 11 (Tm.rows ks))], .var [.d (.int .i8 0), .d (.str ⟨#[]⟩), .d (.str ⟨#[]⟩), .d (.int .i64 0), .d (.int .i8 0), .d .nils, .d (.int .i8 0), .d .nils, .d (.int .i64 0), .d (.int .i64 0), .d .nils], .row 39 11 (Tm.rows ((tmopens ks).take x.i))], []⟩)
      (fun x => ks.length - x.i) ⟨0, Nat.zero_le _, rfl⟩ 3 (fun _ => rfl) (Nat.le_of_ble_eq_true rfl) ⟨⟨rfl, rfl, rfl, rfl, rfl, rfl, trivial⟩, rfl, rfl, ⟨[], rfl⟩, rfl⟩ (fun x => ?_)
    obtain ⟨i, hi, hj⟩ := x
    repeat' first
      | refine AW.seq ?_
      | refine AW.block ?_
      | (refine AW.region tab_ok ?_; conv => whnf)
      | (refine AW.cond ?_; conv => whnf)
      | (refine AW.skip ?_; conv => whnf)
      | (refine AW.ret ?_; conv => whnf)
      | (refine AW.exit ?_; conv => whnf)
      | (refine And.intro (@rfl Val _) ?_; conv => whnf)
      | (refine And.intro (by decide) ?_; conv => whnf)
      | (refine cs (fun _ => ?_) (fun _ => ?_) <;> conv => whnf)
    · rename_i h2
      simp only [trows_length] at h2
      have := of_decide_eq_true h2
      refine ⟨by simp only [trows_length]; omega, fun row hrow => ?_⟩
      obtain ⟨x, ht, rfl⟩ := trows_get ks i row (by simpa using hrow)
      have hlt : i < ks.length := (List.getElem?_eq_some_iff.1 ht).1
      have hmem := List.mem_of_getElem? ht
      have hc := ih' x hmem
      have hn := tmhass_take 17 ks i _ ht
      have hf := tmhass_mem 17 ks _ hmem
      have hg := tmopens_get ht
      have hoR : ∀ o σ, openR x o σ → ∃ m : Tm, (tmhas 17 x = false → m = tmopen x) ∧ o = .ret (.tup [m.val, .c (.d (.bool (!tmhas 17 x)))]) ∧ σ = [] := fun _ _ h => h
      generalize openR x = RR at hc hoR
      generalize tmhas 17 x = b at hn hf hoR
      generalize tmopen x = x' at hg hoR
      obtain ⟨kx, namex, argx, numx, tkx, tksx, ukx, uksx, labelx, placex, ksx⟩ := x
      conv => whnf
      repeat' first
        | refine AW.seq ?_
        | refine AW.block ?_
        | (refine AW.region tab_ok ?_; conv => whnf)
        | (refine AW.cond ?_; conv => whnf)
        | (refine AW.skip ?_; conv => whnf)
        | (refine AW.ret ?_; conv => whnf)
        | (refine AW.exit ?_; conv => whnf)
        | (refine And.intro (@rfl Val _) ?_; conv => whnf)
        | (refine And.intro (by decide) ?_; conv => whnf)
        | (refine cs (fun _ => ?_) (fun _ => ?_) <;> conv => whnf)
      refine hc.mono ?_
      intro o1 σ1 hR
      obtain ⟨⟨ky, namey, argy, numy, tky, tksy, uky, uksy, labely, placey, ksy⟩, hm, rfl, rfl⟩ := hoR _ _ hR
      conv => whnf
      repeat' first
        | refine AW.seq ?_
        | refine AW.block ?_
        | (refine AW.region tab_ok ?_; conv => whnf)
        | (refine AW.cond ?_; conv => whnf)
        | (refine AW.skip ?_; conv => whnf)
        | (refine AW.ret ?_; conv => whnf)
        | (refine AW.exit ?_; conv => whnf)
        | (refine And.intro (@rfl Val _) ?_; conv => whnf)
        | (refine And.intro (by decide) ?_; conv => whnf)
        | (refine cs (fun _ => ?_) (fun _ => ?_) <;> conv => whnf)
      · rename_i h3
        have h3 : b = true := by simpa using h3
        refine ⟨.node k name arg num 0 [] 0 [] label place ks, fun hh => ?_, ?_, rfl⟩
        · rw [e, hf h3] at hh; cases hh
        · rw [e, hf h3]; rfl
      · rename_i h3
        have h3 : b = false := by simpa using h3
        have hm := hm h3
        subst hm
        have hmt : (tmopens ks).take (i + 1) = (tmopens ks).take i ++ [.node ky namey argy numy tky tksy uky uksy labely placey ksy] := by
          rw [List.take_add_one, hg]; rfl
        have e2 : Tm.rows ((tmopens ks).take i) ++ [Tm.cells (.node ky namey argy numy tky tksy uky uksy labely placey ksy)] = Tm.rows ((tmopens ks).take (i + 1)) := by
          rw [hmt, trows_map ((tmopens ks).take i), trows_map ((tmopens ks).take i ++ _), List.map_append]; rfl
        have el : (Tm.rows ((tmopens ks).take i)).length + [Tm.cells (.node ky namey argy numy tky tksy uky uksy labely placey ksy)].length = (Tm.rows ((tmopens ks).take (i + 1))).length := by
          rw [← List.length_append, e2]
        have ho := tmopens_len ks
        refine ⟨⟨rfl, ?_, ?_⟩, ?_⟩
        · simp only [trows_length, List.length_take, List.length_cons, List.length_nil]
          omega
        · simp only [trows_length, List.length_take, List.length_cons, List.length_nil]
          omega
        conv => whnf
        repeat' first
          | refine AW.seq ?_
          | refine AW.block ?_
          | (refine AW.region tab_ok ?_; conv => whnf)
          | (refine AW.cond ?_; conv => whnf)
          | (refine AW.skip ?_; conv => whnf)
          | (refine AW.ret ?_; conv => whnf)
          | (refine AW.exit ?_; conv => whnf)
          | (refine And.intro (@rfl Val _) ?_; conv => whnf)
          | (refine And.intro (by decide) ?_; conv => whnf)
          | (refine cs (fun _ => ?_) (fun _ => ?_) <;> conv => whnf)
        simp only [Tm.cells] at e2 el
        rw [el, e2, wrap64 (x := (i : Int) + 1) (by omega) (by omega)]
        exact ⟨⟨i + 1, hlt, by rw [hn, hj, h3]; rfl⟩, ⟨⟨rfl, rfl, rfl, rfl, rfl, rfl, trivial⟩, rfl, rfl, ⟨[_, _], rfl⟩, rfl⟩, show ks.length - (i + 1) < ks.length - i by omega⟩
    · rename_i h2
      simp only [trows_length] at h2
      have := of_decide_eq_false h2
      obtain rfl : i = ks.length := by omega
      simp only [List.take_length] at hj
      have e3 : (tmopens ks).take ks.length = tmopens ks := List.take_of_length_le (by rw [tmopens_len]; omega)
      simp only [e3]
      first | refine ⟨trivial, ?_⟩ | refine ⟨rfl, ?_⟩ | skip
      conv => whnf
      refine ⟨tmopen (.node k name arg num tk tks uk uks label place ks), fun _ => rfl, ?_, ?_⟩
      · rw [e, hj]; rfl
      · first | rfl | trivial
end Go.Proofs.Ytdhkopangbgehaa.E
