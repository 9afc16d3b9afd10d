/- Texts, merged: Le1B, TyOpen. No conditions. -/
import Derived.Test.YtlboogackecjlaaGenX9
import Derived.Test.YtlboogackecjlaaGenX12
import Derived.Test.YtlboogackecjlaaEngX3
import Derived.Test.YtlboogackecjlaaGenX2
import Derived.Deep.Slices
import Derived.WideKeyArgs
import Derived.ChangeArms
import Derived.ChangeOld
import Derived.Below
/- lessen.walk, term, At: the result in blocks of its own, for every tag of the term handed in. No conditions. -/
set_option linter.unusedVariables false
set_option linter.unusedSimpArgs false
namespace Go.Proofs.Ytlboogackecjlaa.E
open Go

def tcell2 (b : Bool) (ks : List Ty) : DV := if b then .sl 2 2 (Ty.rowsR 2 ks) else .nils
set_option maxRecDepth 10000 in
theorem walk_restB (ck : Nat) (l : IL) (k : Int) (ks : List Ty) (g : Bool) (n : Nat) (hle : ks.length ≤ 8192)
    (ih : ∀ (i : Nat) t, ks[i]? = some t → ACall Try.prog 62 [t.valR 9, .c (.fn 34 [] [.ptr 0 0, .ptr 1 0]), .c (.d (.bool g))] [.var [.d (.int .i64 ((n + spNL (ks.take i) : Nat) : Int))], .var [.mp 2], .mp (.int .i64) ck (encI l)] (fun o σ => o = .ret ((walkT (leBA l) g t (n + spNL (ks.take i))).valR 2) ∧ σ = [.var [.d (.int .i64 ((n + spNL (ks.take i) + spN t : Nat) : Int))], .var [.mp 2], .mp (.int .i64) ck (encI l)])) :
    AW Try.prog tab 2 rest95A ⟨42, [(3, .c (.ptr 3 0)), (6, .c (.ptr 4 0)), (1, .c (.fn 34 [] [.ptr 0 0, .ptr 1 0])), (2, .c (.d (.bool g)))], [.var [.d (.int .i64 ((n : Nat) : Int))], .var [.mp 2], .mp (.int .i64) ck (encI l), .var [.d (.int .i8 k), .d (.sl 9 2 (Ty.rowsR 9 ks))], .var [.d (.int .i8 0), .d .nils]], []⟩
      (afin tab 2 62 [.cell 6 25] 3 (fun o σ => o = .ret ((if g = true then Ty.node 0 [] else Ty.node k (walkGs (leBA l) g ks n)).valR 2) ∧ σ = [.var [.d (.int .i64 ((n + spNL ks : Nat) : Int))], .var [.mp 2], .mp (.int .i64) ck (encI l)])) := by
  repeat' first | refine AW.seq ?_ | refine AW.block ?_ | (refine (id : AW _ _ _ (.region 8 _ true) _ _ → _) ?_; refine AW.draw (id := 8) tab_ok mixed [0, 1, 2, 3, 4, 5, 6, 7, 8, 9] (by kernel_rfl) ?_; conv => whnf) | ((first | refine AW.region tab_ok ?_ | refine AW.cond ?_ | refine AW.skip ?_ | refine AW.ret ?_ | refine AW.exit ?_); conv => whnf) | ((first | refine And.intro (@rfl Val _) ?_ | refine And.intro (by decide) ?_ | refine cs (fun _ => ?_) (fun _ => ?_)) <;> conv => whnf)
  refine AW.ghost 25 2 5 1 (by decide) rfl rfl ?_
  refine AW.loop (ι := UpTo ks) (fun x => ⟨42, [(25, .c (.d (.int .i64 x.i))), (24, .c (.d (.int .i64 (Ty.rowsR 9 ks).length))), (23, .c (.d (.sl 9 2 (Ty.rowsR 9 ks)))), (7, .c (.ptr 5 0)), (3, .c (.ptr 3 0)), (6, .c (.ptr 4 0)), (1, .c (.fn 34 [] [.ptr 0 0, .ptr 1 0])), (2, .c (.d (.bool g)))],
      [.var [.d (.int .i64 ((n + spNL (ks.take x.i) : Nat) : Int))], .var [.mp 2], .mp (.int .i64) ck (encI l), .var [.d (.int .i8 k), .d (.sl 9 2 (Ty.rowsR 9 ks))], .var [.d (.int .i8 0), .d .nils], .var [.d (.int .i8 k), .own 6 (Ty.rowsR 2 ((walkGs (leBA l) g ks n).take x.i)).length], .row 25 2 (Ty.rowsR 2 ((walkGs (leBA l) g ks n).take x.i))], []⟩)
    (fun x => ks.length - x.i) ⟨0, Nat.zero_le _⟩ 7 (fun _ => rfl) (Nat.le_of_ble_eq_true rfl) ⟨⟨rfl, rfl, rfl, rfl, rfl, rfl, rfl, rfl, trivial⟩, rfl, rfl, ⟨[], rfl⟩, rfl⟩ (fun x => ?_)
  obtain ⟨i, hi⟩ := x
  repeat' first | refine AW.seq ?_ | refine AW.block ?_ | (refine (id : AW _ _ _ (.region 8 _ true) _ _ → _) ?_; refine AW.draw (id := 8) tab_ok mixed [0, 1, 2, 3, 4, 5, 6, 7, 8, 9] (by kernel_rfl) ?_; conv => whnf) | ((first | refine AW.region tab_ok ?_ | refine AW.cond ?_ | refine AW.skip ?_ | refine AW.ret ?_ | refine AW.exit ?_); conv => whnf) | ((first | refine And.intro (@rfl Val _) ?_ | refine And.intro (by decide) ?_ | refine cs (fun _ => ?_) (fun _ => ?_)) <;> conv => whnf)
  · rename_i h1
    have h1 : (i : Int) < ((Ty.rowsR 9 ks).length : Nat) := of_decide_eq_true h1
    refine ⟨⟨by omega, h1⟩, fun row hrow => ?_⟩
    rw [tyrowsR_len] at h1
    have hlt : i < ks.length := by omega
    obtain ⟨x, ht, rfl⟩ := tyrowsR_get 9 ks i row (by simpa using hrow)
    have hc := ih i x ht
    have hs := spNL_take ks i x ht
    have hw := walkGs_take (leBA l) g ks i n x ht
    have hl := walkGs_len (leBA l) g ks n
    generalize hq : walkT (leBA l) g x (n + spNL (ks.take i)) = q at hc hw
    clear ht hrow hq
    obtain ⟨kx, kxs⟩ := x
    obtain ⟨kq, kqs⟩ := q
    conv => whnf
    repeat' first | refine AW.seq ?_ | refine AW.block ?_ | (refine (id : AW _ _ _ (.region 8 _ true) _ _ → _) ?_; refine AW.draw (id := 8) tab_ok mixed [0, 1, 2, 3, 4, 5, 6, 7, 8, 9] (by kernel_rfl) ?_; conv => whnf) | ((first | refine AW.region tab_ok ?_ | refine AW.cond ?_ | refine AW.skip ?_ | refine AW.ret ?_ | refine AW.exit ?_); conv => whnf) | (refine (hc).mono ?_; rintro _ _ ⟨rfl, rfl⟩; conv => whnf) | ((first | refine And.intro (@rfl Val _) ?_ | refine And.intro (by decide) ?_ | refine cs (fun _ => ?_) (fun _ => ?_)) <;> conv => whnf)
    refine ⟨⟨rfl, ?_, ?_⟩, ?_⟩
    · simp only [tyrowsR_len, List.length_take, List.length_cons, List.length_nil]; omega
    · simp only [tyrowsR_len, List.length_take, List.length_cons, List.length_nil]; omega
    conv => whnf
    repeat' first | refine AW.seq ?_ | refine AW.block ?_ | (refine (id : AW _ _ _ (.region 8 _ true) _ _ → _) ?_; refine AW.draw (id := 8) tab_ok mixed [0, 1, 2, 3, 4, 5, 6, 7, 8, 9] (by kernel_rfl) ?_; conv => whnf) | ((first | refine AW.region tab_ok ?_ | refine AW.cond ?_ | refine AW.skip ?_ | refine AW.ret ?_ | refine AW.exit ?_); conv => whnf) | ((first | refine And.intro (@rfl Val _) ?_ | refine And.intro (by decide) ?_ | refine cs (fun _ => ?_) (fun _ => ?_)) <;> conv => whnf)
    have e : Ty.rowsR 2 ((walkGs (leBA l) g ks n).take i) ++ [[.int .i8 kq, .sl 2 2 (Ty.rowsR 2 kqs)]] = Ty.rowsR 2 ((walkGs (leBA l) g ks n).take (i + 1)) := by
      rw [hw, tyrowsR_app]; rfl
    have el : (Ty.rowsR 2 ((walkGs (leBA l) g ks n).take i)).length + [[DV.int .i8 kq, .sl 2 2 (Ty.rowsR 2 kqs)]].length = (Ty.rowsR 2 ((walkGs (leBA l) g ks n).take (i + 1))).length := by
      rw [← List.length_append, e]
    rw [el, e, Nat.add_assoc, ← hs, wrap64 (x := (i : Int) + 1) (by omega) (by omega)]
    exact ⟨⟨i + 1, hlt⟩, ⟨⟨rfl, rfl, rfl, rfl, rfl, rfl, rfl, rfl, trivial⟩, rfl, rfl, ⟨[_], rfl⟩, rfl⟩, show ks.length - (i + 1) < ks.length - i by omega⟩
  · rename_i h1 h2
    have h1 : ¬ (i : Int) < ((Ty.rowsR 9 ks).length : Nat) := of_decide_eq_false h1
    rw [tyrowsR_len] at h1
    obtain rfl : i = ks.length := by omega
    rw [if_pos h2]
    simp only [List.take_length]
    exact ⟨rfl, rfl⟩
  · rename_i h1 h2
    have h1 : ¬ (i : Int) < ((Ty.rowsR 9 ks).length : Nat) := of_decide_eq_false h1
    rw [tyrowsR_len] at h1
    obtain rfl : i = ks.length := by omega
    rw [if_neg (by simp [h2])]
    have e2 : (walkGs (leBA l) g ks n).take ks.length = walkGs (leBA l) g ks n := List.take_of_length_le (by rw [walkGs_len]; exact Nat.le_refl _)
    simp only [List.take_length, e2]
    first | refine ⟨trivial, ?_⟩ | refine ⟨rfl, ?_⟩
    conv => whnf
    exact ⟨rfl, rfl⟩
set_option maxRecDepth 10000 in
theorem walk_callB (ck : Nat) (l : IL) (a : Ty) : ∀ (g : Bool) (n : Nat), nodes a ≤ 8192 → n + spN a ≤ 500000 → ACall Try.prog 62 [a.valR 9, .c (.fn 34 [] [.ptr 0 0, .ptr 1 0]), .c (.d (.bool g))] [.var [.d (.int .i64 ((n : Nat) : Int))], .var [.mp 2], .mp (.int .i64) ck (encI l)] (fun o σ => o = .ret ((walkT (leBA l) g a n).valR 2) ∧ σ = [.var [.d (.int .i64 ((n + spN a : Nat) : Int))], .var [.mp 2], .mp (.int .i64) ck (encI l)]) := by
  induction a using Ty.ind with
  | _ k ks ih =>
  intro g n ha hn
  have hlk := nodesL_len ks
  simp only [nodes] at ha
  by_cases h0 : k = 0
  · subst h0
    simp only [walkT, spN, if_true, Nat.add_zero]
    clear ih
    refine ACall.body tab_ok (ρ := 2) (N := 42) Try.func62 rfl rfl rfl rfl rfl ?_
    repeat' first | refine AW.seq ?_ | refine AW.block ?_ | (refine (id : AW _ _ _ (.region 8 _ true) _ _ → _) ?_; refine AW.draw (id := 8) tab_ok mixed [0, 1, 2, 3, 4, 5, 6, 7, 8, 9] (by kernel_rfl) ?_; conv => whnf) | ((first | refine AW.region tab_ok ?_ | refine AW.cond ?_ | refine AW.skip ?_ | refine AW.ret ?_ | refine AW.exit ?_); conv => whnf) | ((first | refine And.intro (@rfl Val _) ?_ | refine And.intro (by decide) ?_ | refine cs (fun _ => ?_) (fun _ => ?_)) <;> conv => whnf)
    exact ⟨rfl, rfl⟩
  have b0 : (k == 0) = false := by simpa using h0
  simp only [spN, if_neg h0] at hn
  have sp := spot_callA ck l n (by omega)
  have fin : ∀ (g' : Bool) (env : List (Nat × Val)), ((leBA l) n || g) = g' → get env 3 = .c (.ptr 3 0) → get env 6 = .c (.ptr 4 0) → get env 1 = .c (.fn 34 [] [.ptr 0 0, .ptr 1 0]) → get env 2 = .c (.d (.bool g')) →
      AW Try.prog tab 2 rest95A ⟨42, env, [.var [.d (.int .i64 ((n + 1 : Nat) : Int))], .var [.mp 2], .mp (.int .i64) ck (encI l), .var [.d (.int .i8 k), .d (.sl 9 2 (Ty.rowsR 9 ks))], .var [.d (.int .i8 0), .d .nils]], []⟩
        (afin tab 2 62 Try.f62.results.toList ([.var [.d (.int .i64 ((n : Nat) : Int))], .var [.mp 2], .mp (.int .i64) ck (encI l)] : List AObj).length (fun o σ => o = .ret ((walkT (leBA l) g (.node k ks) n).valR 2) ∧ σ = [.var [.d (.int .i64 ((n + spN (.node k ks) : Nat) : Int))], .var [.mp 2], .mp (.int .i64) ck (encI l)])) := fun g' env hg g1 g2 g3 g4 => by
    have hr := walk_restB ck l k ks g' (n + 1) (by omega) (fun i t ht => by
      have hm := List.mem_of_getElem? ht
      have h1 := nodes_mem ks t hm
      have h2 := spNL_take ks i t ht
      have h3 := spNL_le ks (i + 1)
      exact ih t hm g' (n + 1 + spNL (ks.take i)) (by omega) (by omega))
    have e1 : walkT (leBA l) g (.node k ks) n = (if g' = true then Ty.node 0 [] else Ty.node k (walkGs (leBA l) g' ks (n + 1))) := by
      simp only [walkT, if_neg h0, hg]
      cases g' with
      | true => rfl
      | false => simp [walkGs_false]
    rw [e1]
    rw [show n + spN (.node k ks) = n + 1 + spNL ks by simp only [spN, if_neg h0]; omega]
    refine AW.fits ?_ ?_ hr
    · exact ⟨⟨g1, g2, g3, g4, trivial⟩, rfl, rfl, ⟨[], rfl⟩, rfl⟩
    · rfl
  generalize (leBA l) n = b at sp fin
  generalize walkT (leBA l) g (.node k ks) n = R at fin ⊢
  generalize spN (.node k ks) = S at fin ⊢
  clear ih hlk ha hn
  cases b with
  | true =>
    refine ACall.body tab_ok (ρ := 2) (N := 42) Try.func62 rfl rfl rfl rfl rfl ?_
    repeat' first | (exact fin true _ rfl rfl rfl rfl rfl) | ((refine cs (fun h => absurd h (by rw [b0]; decide)) (fun _ => ?_); conv => whnf)) | refine AW.seq ?_ | refine AW.block ?_ | (refine (id : AW _ _ _ (.region 8 _ true) _ _ → _) ?_; refine AW.draw (id := 8) tab_ok mixed [0, 1, 2, 3, 4, 5, 6, 7, 8, 9] (by kernel_rfl) ?_; conv => whnf) | ((first | refine AW.region tab_ok ?_ | refine AW.cond ?_ | refine AW.skip ?_ | refine AW.ret ?_ | refine AW.exit ?_); conv => whnf) | (refine (sp).mono ?_; rintro _ _ ⟨rfl, rfl⟩; conv => whnf) | ((first | refine And.intro (@rfl Val _) ?_ | refine And.intro (by decide) ?_ | refine cs (fun _ => ?_) (fun _ => ?_)) <;> conv => whnf)
  | false =>
    refine ACall.body tab_ok (ρ := 2) (N := 42) Try.func62 rfl rfl rfl rfl rfl ?_
    repeat' first | (exact fin g _ rfl rfl rfl rfl rfl) | ((refine cs (fun h => absurd h (by rw [b0]; decide)) (fun _ => ?_); conv => whnf)) | refine AW.seq ?_ | refine AW.block ?_ | (refine (id : AW _ _ _ (.region 8 _ true) _ _ → _) ?_; refine AW.draw (id := 8) tab_ok mixed [0, 1, 2, 3, 4, 5, 6, 7, 8, 9] (by kernel_rfl) ?_; conv => whnf) | ((first | refine AW.region tab_ok ?_ | refine AW.cond ?_ | refine AW.skip ?_ | refine AW.ret ?_ | refine AW.exit ?_); conv => whnf) | (refine (sp).mono ?_; rintro _ _ ⟨rfl, rfl⟩; conv => whnf) | ((first | refine And.intro (@rfl Val _) ?_ | refine And.intro (by decide) ?_ | refine cs (fun _ => ?_) (fun _ => ?_)) <;> conv => whnf)
set_option maxRecDepth 10000 in
theorem term_restB (ck : Nat) (l : IL) (k : Int) (name arg : ByteArray) (num tk : Int) (tks : List Ty) (uk : Int) (uks : List Ty) (label place : Int) (ks : List Tm) (name' arg' : ByteArray) (num' tk' uk' : Int) (tks' uks' : List Ty) (bt bu : Bool) (ms : List Tm) (n : Nat) (hlen : ks.length ≤ 8192) (hms : ms.length = ks.length)
    (hk : ∀ (i : Nat) x, ks[i]? = some x → ∃ m, ms[i]? = some m ∧ ACall Try.prog 33 [.c (.d (.rp 9 (x.cellsR 9 9))), .c (.fn 34 [] [.ptr 0 0, .ptr 1 0])] [.var [.d (.int .i64 ((n + tmSpL (ks.take i) : Nat) : Int))], .var [.mp 2], .mp (.int .i64) ck (encI l)] (fun o σ => o = .ret (m.valR 2 2) ∧ σ = [.var [.d (.int .i64 ((n + tmSpL (ks.take i) + tmSp x : Nat) : Int))], .var [.mp 2], .mp (.int .i64) ck (encI l)])) :
    AW Try.prog tab 2 rest54A ⟨122, [(0, .c (.d (.rp 9 ((Tm.node k name arg num tk tks uk uks label place ks).cellsR 9 9)))), (4, .c (.ptr 3 0)), (5, .c (.ptr 4 0)), (1, .c (.fn 34 [] [.ptr 0 0, .ptr 1 0]))], [.var [.d (.int .i64 ((n : Nat) : Int))], .var [.mp 2], .mp (.int .i64) ck (encI l), .var [.d (.int .i8 0), .d (.str ⟨#[]⟩), .d (.str ⟨#[]⟩), .d (.int .i64 0), .d (.int .i8 0), .d .nils, .d (.int .i8 0), .d .nils, .d (.int .i64 0), .d (.int .i64 0), .d .nils], .var [.d (.int .i8 k), .d (.str name'), .d (.str arg'), .d (.int .i64 num'), .d (.int .i8 tk'), .d (tcell2 bt tks'), .d (.int .i8 uk'), .d (tcell2 bu uks'), .d (.int .i64 0), .d (.int .i64 place), .d .nils]], []⟩
      (afin tab 2 33 [.cell 4 28] 3 (fun o σ => o = .ret ((Tm.node k name' arg' num' tk' (if bt then tks' else []) uk' (if bu then uks' else []) 0 place ms).valR 2 2) ∧ σ = [.var [.d (.int .i64 ((n + tmSpL ks : Nat) : Int))], .var [.mp 2], .mp (.int .i64) ck (encI l)])) := by
  repeat' first | refine AW.seq ?_ | refine AW.block ?_ | (refine (id : AW _ _ _ (.region 1 _ true) _ _ → _) ?_; refine AW.draw (id := 1) tab_ok mixed [0, 1, 2, 3, 4, 5, 6, 7, 8, 9, 10] (by kernel_rfl) ?_; conv => whnf) | (refine (id : AW _ _ _ (.region 10 _ true) _ _ → _) ?_; refine AW.draw (id := 10) tab_ok mixed [0, 1, 2, 3, 4, 5, 6, 7, 8, 10, 9, 11, 12, 13] (by kernel_rfl) ?_; conv => whnf) | (refine (id : AW _ _ _ (.region 12 _ true) _ _ → _) ?_; refine AW.draw (id := 12) tab_ok mixed [0, 1, 2, 3, 4, 5, 6, 7, 8, 9, 10, 11] (by kernel_rfl) ?_; conv => whnf) | (refine (id : AW _ _ _ (.region 16 _ true) _ _ → _) ?_; refine AW.draw (id := 16) tab_ok mixed [0, 1, 2, 3, 4, 5, 6, 7, 8, 9, 10, 11] (by kernel_rfl) ?_; conv => whnf) | (refine (id : AW _ _ _ (.region 24 _ true) _ _ → _) ?_; refine AW.draw (id := 24) tab_ok mixed [0, 1, 2, 3, 4, 5, 6, 7, 8, 9, 10, 11, 12, 13] (by kernel_rfl) ?_; conv => whnf) | ((first | refine AW.region tab_ok ?_ | refine AW.cond ?_ | refine AW.skip ?_ | refine AW.ret ?_ | refine AW.exit ?_); conv => whnf) | ((first | refine And.intro (@rfl Val _) ?_ | refine And.intro (by decide) ?_ | refine cs (fun _ => ?_) (fun _ => ?_)) <;> conv => whnf)
  refine AW.ghost 28 11 4 10 (by decide) rfl rfl ?_
  refine AW.loop (ι := UpToT ks) (fun x => ⟨122, [(104, .c (.d (.int .i64 x.i))), (103, .c (.d (.int .i64 (Tm.rowsR 9 9 ks).length))), (0, .c (.d (.rp 9 ((Tm.node k name arg num tk tks uk uks label place ks).cellsR 9 9)))), (4, .c (.ptr 3 0)), (5, .c (.ptr 4 0)), (1, .c (.fn 34 [] [.ptr 0 0, .ptr 1 0]))],
      [.var [.d (.int .i64 ((n + tmSpL (ks.take x.i) : Nat) : Int))], .var [.mp 2], .mp (.int .i64) ck (encI l), .var [.d (.int .i8 0), .d (.str ⟨#[]⟩), .d (.str ⟨#[]⟩), .d (.int .i64 0), .d (.int .i8 0), .d .nils, .d (.int .i8 0), .d .nils, .d (.int .i64 0), .d (.int .i64 0), .d .nils], .var [.d (.int .i8 k), .d (.str name'), .d (.str arg'), .d (.int .i64 num'), .d (.int .i8 tk'), .d (tcell2 bt tks'), .d (.int .i8 uk'), .d (tcell2 bu uks'), .d (.int .i64 0), .d (.int .i64 place), .own 5 (Tm.rowsR 2 2 (ms.take x.i)).length], .row 28 11 (Tm.rowsR 2 2 (ms.take x.i))], []⟩)
    (fun x => ks.length - x.i) ⟨0, Nat.zero_le _⟩ 6 (fun _ => rfl) (Nat.le_of_ble_eq_true rfl) ⟨⟨rfl, rfl, rfl, rfl, rfl, rfl, trivial⟩, rfl, rfl, ⟨[], rfl⟩, rfl⟩ (fun x => ?_)
  obtain ⟨i, hi⟩ := x
  repeat' first | refine AW.seq ?_ | refine AW.block ?_ | (refine (id : AW _ _ _ (.region 1 _ true) _ _ → _) ?_; refine AW.draw (id := 1) tab_ok mixed [0, 1, 2, 3, 4, 5, 6, 7, 8, 9, 10] (by kernel_rfl) ?_; conv => whnf) | (refine (id : AW _ _ _ (.region 10 _ true) _ _ → _) ?_; refine AW.draw (id := 10) tab_ok mixed [0, 1, 2, 3, 4, 5, 6, 7, 8, 10, 9, 11, 12, 13] (by kernel_rfl) ?_; conv => whnf) | (refine (id : AW _ _ _ (.region 12 _ true) _ _ → _) ?_; refine AW.draw (id := 12) tab_ok mixed [0, 1, 2, 3, 4, 5, 6, 7, 8, 9, 10, 11] (by kernel_rfl) ?_; conv => whnf) | (refine (id : AW _ _ _ (.region 16 _ true) _ _ → _) ?_; refine AW.draw (id := 16) tab_ok mixed [0, 1, 2, 3, 4, 5, 6, 7, 8, 9, 10, 11] (by kernel_rfl) ?_; conv => whnf) | (refine (id : AW _ _ _ (.region 24 _ true) _ _ → _) ?_; refine AW.draw (id := 24) tab_ok mixed [0, 1, 2, 3, 4, 5, 6, 7, 8, 9, 10, 11, 12, 13] (by kernel_rfl) ?_; conv => whnf) | ((first | refine AW.region tab_ok ?_ | refine AW.cond ?_ | refine AW.skip ?_ | refine AW.ret ?_ | refine AW.exit ?_); conv => whnf) | ((first | refine And.intro (@rfl Val _) ?_ | refine And.intro (by decide) ?_ | refine cs (fun _ => ?_) (fun _ => ?_)) <;> conv => whnf)
  · rename_i h1
    have h1 : (i : Int) < ((Tm.rowsR 9 9 ks).length : Nat) := of_decide_eq_true h1
    refine ⟨⟨by omega, h1⟩, fun row hrow => ?_⟩
    rw [tmrowsR_len] at h1
    have hlt : i < ks.length := by omega
    obtain ⟨x, ht, rfl⟩ := tmrowsR_get 9 9 ks i row (by simpa using hrow)
    obtain ⟨m, hm, hc⟩ := hk i x ht
    have hs := tmSpL_take ks i x ht
    have hmt : ms.take (i + 1) = ms.take i ++ [m] := by rw [List.take_add_one, hm]; rfl
    have e : Tm.rowsR 2 2 (ms.take i) ++ [m.cellsR 2 2] = Tm.rowsR 2 2 (ms.take (i + 1)) := by
      rw [hmt, tmrowsR_app]
    have el : (Tm.rowsR 2 2 (ms.take i)).length + [m.cellsR 2 2].length = (Tm.rowsR 2 2 (ms.take (i + 1))).length := by
      rw [← List.length_append, e]
    clear ht hrow hm hmt
    obtain ⟨kx, namex, argx, numx, tkx, tksx, ukx, uksx, labelx, placex, ksx⟩ := m
    conv => whnf
    repeat' first | refine AW.seq ?_ | refine AW.block ?_ | (refine (id : AW _ _ _ (.region 1 _ true) _ _ → _) ?_; refine AW.draw (id := 1) tab_ok mixed [0, 1, 2, 3, 4, 5, 6, 7, 8, 9, 10] (by kernel_rfl) ?_; conv => whnf) | (refine (id : AW _ _ _ (.region 10 _ true) _ _ → _) ?_; refine AW.draw (id := 10) tab_ok mixed [0, 1, 2, 3, 4, 5, 6, 7, 8, 10, 9, 11, 12, 13] (by kernel_rfl) ?_; conv => whnf) | (refine (id : AW _ _ _ (.region 12 _ true) _ _ → _) ?_; refine AW.draw (id := 12) tab_ok mixed [0, 1, 2, 3, 4, 5, 6, 7, 8, 9, 10, 11] (by kernel_rfl) ?_; conv => whnf) | (refine (id : AW _ _ _ (.region 16 _ true) _ _ → _) ?_; refine AW.draw (id := 16) tab_ok mixed [0, 1, 2, 3, 4, 5, 6, 7, 8, 9, 10, 11] (by kernel_rfl) ?_; conv => whnf) | (refine (id : AW _ _ _ (.region 24 _ true) _ _ → _) ?_; refine AW.draw (id := 24) tab_ok mixed [0, 1, 2, 3, 4, 5, 6, 7, 8, 9, 10, 11, 12, 13] (by kernel_rfl) ?_; conv => whnf) | ((first | refine AW.region tab_ok ?_ | refine AW.cond ?_ | refine AW.skip ?_ | refine AW.ret ?_ | refine AW.exit ?_); conv => whnf) | (refine (hc).mono ?_; rintro _ _ ⟨rfl, rfl⟩; conv => whnf) | ((first | refine And.intro (@rfl Val _) ?_ | refine And.intro (by decide) ?_ | refine cs (fun _ => ?_) (fun _ => ?_)) <;> conv => whnf)
    refine ⟨⟨rfl, ?_, ?_⟩, ?_⟩
    · simp only [tmrowsR_len, List.length_take, List.length_cons, List.length_nil]; omega
    · simp only [tmrowsR_len, List.length_take, List.length_cons, List.length_nil]; omega
    conv => whnf
    repeat' first | refine AW.seq ?_ | refine AW.block ?_ | (refine (id : AW _ _ _ (.region 1 _ true) _ _ → _) ?_; refine AW.draw (id := 1) tab_ok mixed [0, 1, 2, 3, 4, 5, 6, 7, 8, 9, 10] (by kernel_rfl) ?_; conv => whnf) | (refine (id : AW _ _ _ (.region 10 _ true) _ _ → _) ?_; refine AW.draw (id := 10) tab_ok mixed [0, 1, 2, 3, 4, 5, 6, 7, 8, 10, 9, 11, 12, 13] (by kernel_rfl) ?_; conv => whnf) | (refine (id : AW _ _ _ (.region 12 _ true) _ _ → _) ?_; refine AW.draw (id := 12) tab_ok mixed [0, 1, 2, 3, 4, 5, 6, 7, 8, 9, 10, 11] (by kernel_rfl) ?_; conv => whnf) | (refine (id : AW _ _ _ (.region 16 _ true) _ _ → _) ?_; refine AW.draw (id := 16) tab_ok mixed [0, 1, 2, 3, 4, 5, 6, 7, 8, 9, 10, 11] (by kernel_rfl) ?_; conv => whnf) | (refine (id : AW _ _ _ (.region 24 _ true) _ _ → _) ?_; refine AW.draw (id := 24) tab_ok mixed [0, 1, 2, 3, 4, 5, 6, 7, 8, 9, 10, 11, 12, 13] (by kernel_rfl) ?_; conv => whnf) | ((first | refine AW.region tab_ok ?_ | refine AW.cond ?_ | refine AW.skip ?_ | refine AW.ret ?_ | refine AW.exit ?_); conv => whnf) | ((first | refine And.intro (@rfl Val _) ?_ | refine And.intro (by decide) ?_ | refine cs (fun _ => ?_) (fun _ => ?_)) <;> conv => whnf)
    simp only [Tm.cellsR] at e el
    rw [el, e, Nat.add_assoc, ← hs, wrap64 (x := (i : Int) + 1) (by omega) (by omega)]
    exact ⟨⟨i + 1, hlt⟩, ⟨⟨rfl, rfl, rfl, rfl, rfl, rfl, trivial⟩, rfl, rfl, ⟨[], rfl⟩, rfl⟩, show ks.length - (i + 1) < ks.length - i by omega⟩
  · rename_i h1
    have h1 : ¬ (i : Int) < ((Tm.rowsR 9 9 ks).length : Nat) := of_decide_eq_false h1
    rw [tmrowsR_len] at h1
    obtain rfl : i = ks.length := by omega
    have e : ms.take ks.length = ms := List.take_of_length_le (by omega)
    simp only [e, List.take_length]
    cases bt <;> cases bu
    all_goals
      first | refine ⟨trivial, ?_⟩ | refine ⟨rfl, ?_⟩
      conv => whnf
      first | exact ⟨rfl, rfl⟩ | exact ⟨rfl, trivial⟩ | (simp; rfl)
set_option maxRecDepth 10000 in
set_option maxHeartbeats 4000000 in
theorem term_callB (ck : Nat) (l : IL) (a : Tm) : ∀ (n : Nat), tmN a ≤ 8192 → tmright a = true → tmhas 17 a = false → n + tmSp a ≤ 400000 → ACall Try.prog 33 [.c (.d (.rp 9 (a.cellsR 9 9))), .c (.fn 34 [] [.ptr 0 0, .ptr 1 0])] [.var [.d (.int .i64 ((n : Nat) : Int))], .var [.mp 2], .mp (.int .i64) ck (encI l)] (fun o σ => o = .ret ((leT (leBA l) a n).valR 2 2) ∧ σ = [.var [.d (.int .i64 ((n + tmSp a : Nat) : Int))], .var [.mp 2], .mp (.int .i64) ck (encI l)]) := by
  induction a using Tm.ind with
  | _ k name arg num tk tks uk uks label place ks ih =>
  intro n hN ha h17 hn
  have hlen := tmNL_len ks
  have hv := tmright_valid ha
  have hk17 : k ≠ 17 := fun e => by subst e; simp [tmhas] at h17
  simp only [tmN] at hN
  simp only [tmSp] at hn
  have ih' : ∀ (n' : Nat), n' + tmSpL ks ≤ 400000 → ∀ (i : Nat) x, ks[i]? = some x → ∃ m, (leTs (leBA l) ks n')[i]? = some m ∧ ACall Try.prog 33 [.c (.d (.rp 9 (x.cellsR 9 9))), .c (.fn 34 [] [.ptr 0 0, .ptr 1 0])] [.var [.d (.int .i64 ((n' + tmSpL (ks.take i) : Nat) : Int))], .var [.mp 2], .mp (.int .i64) ck (encI l)] (fun o σ => o = .ret (m.valR 2 2) ∧ σ = [.var [.d (.int .i64 ((n' + tmSpL (ks.take i) + tmSp x : Nat) : Int))], .var [.mp 2], .mp (.int .i64) ck (encI l)]) := fun n' hn' i x hx => by
    have hm := List.mem_of_getElem? hx
    have h1 := tmN_mem ks x hm
    have h2 := tmSpL_take ks i x hx
    have h3 := tmSpL_le ks (i + 1)
    exact ⟨_, leTs_get (leBA l) ks i n' x hx, ih x hm _ (by omega) (tmright_kid ha hm) (tmhas_kid h17 hm) (by omega)⟩
  have n1 : typeK k = true → nodes (.node tk tks) ≤ 8192 := fun h => by rw [if_pos h] at hN; omega
  have n2 : toK k = true → nodes (.node uk uks) ≤ 8192 := fun h => by rw [if_pos h] at hN; omega
  have t1 : fromA k = true → typeK k = true := fun h => by simp [fromA] at h; simp [typeK]; omega
  have t2 : k = 5 → toK k = true := fun h => by subst h; rfl
  have s1 : fromA k = true → spN (.node tk tks) ≤ ownSp k tk tks uk uks := fun h => by simp only [ownSp, if_pos h]; omega
  have s2 : k = 5 → spN (.node tk tks) + spN (.node uk uks) ≤ ownSp k tk tks uk uks := fun h => by subst h; simp only [ownSp]; simp [fromA]
  have w1 : fromA k = true → ACall Try.prog 62 [(Ty.node tk tks).valR 9, .c (.fn 34 [] [.ptr 0 0, .ptr 1 0]), .c (.d (.bool false))] [.var [.d (.int .i64 ((n : Nat) : Int))], .var [.mp 2], .mp (.int .i64) ck (encI l)] (fun o σ => o = .ret ((walkT (leBA l) false (.node tk tks) n).valR 2) ∧ σ = [.var [.d (.int .i64 ((n + spN (.node tk tks) : Nat) : Int))], .var [.mp 2], .mp (.int .i64) ck (encI l)]) := fun h => walk_callB ck l _ false n (n1 (t1 h)) (by have := s1 h; omega)
  have w2 : k = 5 → ACall Try.prog 62 [(Ty.node uk uks).valR 9, .c (.fn 34 [] [.ptr 0 0, .ptr 1 0]), .c (.d (.bool false))] [.var [.d (.int .i64 ((n + spN (.node tk tks) : Nat) : Int))], .var [.mp 2], .mp (.int .i64) ck (encI l)] (fun o σ => o = .ret ((walkT (leBA l) false (.node uk uks) (n + spN (.node tk tks))).valR 2) ∧ σ = [.var [.d (.int .i64 ((n + spN (.node tk tks) + spN (.node uk uks) : Nat) : Int))], .var [.mp 2], .mp (.int .i64) ck (encI l)]) := fun h => walk_callB ck l _ false _ (n2 (t2 h)) (by have := s2 h; omega)
  have hle : leT (leBA l) (.node k name arg num tk tks uk uks label place ks) n = .node k (if nameK k || decide (k = 15) then name else ⟨#[]⟩) (if argK k then arg else ⟨#[]⟩) (if k = 1 then num else 0)
      (if fromA k then tyK (walkT (leBA l) false (.node tk tks) n) else 0) (if fromA k then tyKs (walkT (leBA l) false (.node tk tks) n) else [])
      (if k = 5 then tyK (walkT (leBA l) false (.node uk uks) (n + spN (.node tk tks))) else 0) (if k = 5 then tyKs (walkT (leBA l) false (.node uk uks) (n + spN (.node tk tks))) else [])
      0 place (leTs (leBA l) ks (n + ownSp k tk tks uk uks)) := by simp only [leT]
  have fin : ∀ (bt bu : Bool) (name' arg' : ByteArray) (num' tk' uk' : Int) (tks' uks' : List Ty) (n' : Nat) (env : List (Nat × Val)), leT (leBA l) (.node k name arg num tk tks uk uks label place ks) n = .node k name' arg' num' tk' (if bt then tks' else []) uk' (if bu then uks' else []) 0 place (leTs (leBA l) ks (n + ownSp k tk tks uk uks)) → n' = n + ownSp k tk tks uk uks →
      get env 0 = .c (.d (.rp 9 ((Tm.node k name arg num tk tks uk uks label place ks).cellsR 9 9))) → get env 4 = .c (.ptr 3 0) → get env 5 = .c (.ptr 4 0) → get env 1 = .c (.fn 34 [] [.ptr 0 0, .ptr 1 0]) →
      AW Try.prog tab 2 rest54A ⟨122, env, [.var [.d (.int .i64 ((n' : Nat) : Int))], .var [.mp 2], .mp (.int .i64) ck (encI l), .var [.d (.int .i8 0), .d (.str ⟨#[]⟩), .d (.str ⟨#[]⟩), .d (.int .i64 0), .d (.int .i8 0), .d .nils, .d (.int .i8 0), .d .nils, .d (.int .i64 0), .d (.int .i64 0), .d .nils], .var [.d (.int .i8 k), .d (.str name'), .d (.str arg'), .d (.int .i64 num'), .d (.int .i8 tk'), .d (tcell2 bt tks'), .d (.int .i8 uk'), .d (tcell2 bu uks'), .d (.int .i64 0), .d (.int .i64 place), .d .nils]], []⟩
        (afin tab 2 33 Try.f33.results.toList ([.var [.d (.int .i64 ((n : Nat) : Int))], .var [.mp 2], .mp (.int .i64) ck (encI l)] : List AObj).length (fun o σ => o = .ret ((leT (leBA l) (.node k name arg num tk tks uk uks label place ks) n).valR 2 2) ∧ σ = [.var [.d (.int .i64 ((n + tmSp (.node k name arg num tk tks uk uks label place ks) : Nat) : Int))], .var [.mp 2], .mp (.int .i64) ck (encI l)])) := fun bt bu name' arg' num' tk' uk' tks' uks' n' env e en g0 g4 g5 g1 => by
    have hr := term_restB ck l k name arg num tk tks uk uks label place ks name' arg' num' tk' uk' tks' uks' bt bu (leTs (leBA l) ks n') n' (by omega) (leTs_len _ _ _) (ih' n' (by omega))
    subst en
    rw [e]
    rw [show n + tmSp (.node k name arg num tk tks uk uks label place ks) = n + ownSp k tk tks uk uks + tmSpL ks by simp only [tmSp]; omega]
    refine AW.fits ?_ ?_ hr
    · exact ⟨⟨g0, g4, g5, g1, trivial⟩, rfl, rfl, ⟨[], rfl⟩, rfl⟩
    · rfl
  rw [hle] at fin
  have e1 : fromA k = true → k ≠ 5 → n + spN (.node tk tks) = n + ownSp k tk tks uk uks := fun h h' => by simp only [ownSp, if_pos h, if_neg h']; omega
  have e2 : k = 5 → n + spN (.node tk tks) + spN (.node uk uks) = n + ownSp k tk tks uk uks := fun h => by subst h; simp only [ownSp]; simp [fromA]; omega
  have e0 : fromA k = false → n = n + ownSp k tk tks uk uks := fun h => by
    have : k ≠ 5 := fun e => by subst e; simp [fromA] at h
    simp only [ownSp, h, if_neg this]; simp
  rw [hle]
  generalize walkT (leBA l) false (.node tk tks) n = W1 at w1 fin ⊢
  generalize walkT (leBA l) false (.node uk uks) (n + spN (.node tk tks)) = W2 at w2 fin ⊢
  generalize leTs (leBA l) ks (n + ownSp k tk tks uk uks) = LS at fin ⊢
  generalize tmSp (.node k name arg num tk tks uk uks label place ks) = SP at fin ⊢
  generalize n + ownSp k tk tks uk uks = N1 at fin e0 e1 e2
  clear ih ih' ha hlen hN n1 n2 h17 hn hle t1 t2 s1 s2
  obtain ⟨w1k, w1s⟩ := W1
  obtain ⟨w2k, w2s⟩ := W2
  simp only [tyK, tyKs] at fin ⊢
  rcases kinds k hv with rfl | rfl | rfl | rfl | rfl | rfl | rfl | rfl | rfl | rfl | rfl | rfl | rfl | rfl | rfl | rfl | rfl | rfl
  all_goals first | exact absurd rfl hk17 | skip
  all_goals
    refine ACall.body tab_ok (ρ := 2) (N := 122) Try.func33 rfl rfl rfl rfl rfl ?_
    repeat' first | (exact fin false false _ _ _ _ _ [] [] _ _ rfl (e0 rfl) rfl rfl rfl rfl) | (exact fin true false _ _ _ _ _ _ [] _ _ rfl (e1 rfl (by decide)) rfl rfl rfl rfl) | (exact fin true true _ _ _ _ _ _ _ _ _ rfl (e2 rfl) rfl rfl rfl rfl) | refine AW.seq ?_ | refine AW.block ?_ | (refine (id : AW _ _ _ (.region 1 _ true) _ _ → _) ?_; refine AW.draw (id := 1) tab_ok mixed [0, 1, 2, 3, 4, 5, 6, 7, 8, 9, 10] (by kernel_rfl) ?_; conv => whnf) | (refine (id : AW _ _ _ (.region 10 _ true) _ _ → _) ?_; refine AW.draw (id := 10) tab_ok mixed [0, 1, 2, 3, 4, 5, 6, 7, 8, 10, 9, 11, 12, 13] (by kernel_rfl) ?_; conv => whnf) | (refine (id : AW _ _ _ (.region 12 _ true) _ _ → _) ?_; refine AW.draw (id := 12) tab_ok mixed [0, 1, 2, 3, 4, 5, 6, 7, 8, 9, 10, 11] (by kernel_rfl) ?_; conv => whnf) | (refine (id : AW _ _ _ (.region 16 _ true) _ _ → _) ?_; refine AW.draw (id := 16) tab_ok mixed [0, 1, 2, 3, 4, 5, 6, 7, 8, 9, 10, 11] (by kernel_rfl) ?_; conv => whnf) | (refine (id : AW _ _ _ (.region 24 _ true) _ _ → _) ?_; refine AW.draw (id := 24) tab_ok mixed [0, 1, 2, 3, 4, 5, 6, 7, 8, 9, 10, 11, 12, 13] (by kernel_rfl) ?_; conv => whnf) | ((first | refine AW.region tab_ok ?_ | refine AW.cond ?_ | refine AW.skip ?_ | refine AW.ret ?_ | refine AW.exit ?_); conv => whnf) | ((first | refine (w1 rfl).mono ?_ | refine (w2 rfl).mono ?_); rintro _ _ ⟨rfl, rfl⟩; conv => whnf) | ((first | refine And.intro (@rfl Val _) ?_ | refine And.intro (by decide) ?_ | refine cs (fun _ => ?_) (fun _ => ?_)) <;> conv => whnf)
set_option maxRecDepth 10000 in
theorem At2_call (t : Tm) (l : List Int) (hl : l.length ≤ 100000) : ACall Try.prog 9 [t.valR 9 9, .c (.d (.sl 0 1 (ints l)))] [] (fun o σ => o = .ret (.tup [(atT t l).valR 2 2, .c (.d (.int .i64 (atE t l)))]) ∧ σ = []) := by
  have ra : RtVs 0 [.c (.d (.rp 2 (t.cellsR 9 9)))] [.c (.d (.rp 0 t.cells))] := .cons (.c _ _ (by rw [← tm_R0]; exact RtC.rp (tm_rt 9 9 0 t))) .nil
  have c1 := (lsound_call t).any ra (.int _ _)
  by_cases h : soundE t = 0
  · have c2 := (lcount_call t h).any ra (.int _ _)
    obtain ⟨h1, h2⟩ := sound_ok h
    obtain ⟨h3, h4⟩ := tmcheck_ok h1
    have hs := tmSp_N t h3 h2
    have c3 := fun (m : Nat × IL) => ACall.argsT (.cons (.rt (.c _ _ (RtC.rp (tm_rt 9 9 9 t)) : RtV 9 (.c (.d (.rp 2 (t.cellsR 9 9)))) (.c (.d (.rp 9 (t.cellsR 9 9)))))) (.cons (.same _) .nil)) (term_callB m.1 m.2 t 0 h3 h4 h2 (by omega))
    have eE : atE t l = if inSp (tmSp t) l = true then 0 else 2 := by simp [atE, h]
    have eT : atT t l = if inSp (tmSp t) l = true then leT (atB l) t 0 else tm0 := by
      unfold atT; rw [eE]; split <;> simp
    rw [eE, eT, ← leBA_is l hl]
    rw [h] at c1
    simp only [Nat.zero_add] at c3
    generalize tmSp t = S at *
    generalize hL : (fun m : Nat × IL => leT (leBA m.2) t 0) = LT
    have c3 : ∀ m : Nat × IL, _ := c3
    clear h h1 h2 h3 h4 eE eT ra
    obtain ⟨k, name, arg, num, tk, tks, uk, uks, label, place, ks⟩ := t
    refine ACall.body tab_ok (ρ := 2) (N := 40) Try.func9 rfl rfl rfl rfl rfl ?_
    repeat' first | refine AW.seq ?_ | refine AW.block ?_ | ((first | refine AW.region tab_ok ?_ | refine AW.cond ?_ | refine AW.skip ?_ | refine AW.ret ?_ | refine AW.exit ?_); conv => whnf) | ((first | refine (c1).mono ?_ | refine (c2).mono ?_); rintro _ _ ⟨rfl, rfl⟩; conv => whnf) | ((first | refine And.intro (@rfl Val _) ?_ | refine And.intro (by decide) ?_ | refine cs (fun _ => ?_) (fun _ => ?_)) <;> conv => whnf)
    refine AW.loop (ι := AtI S l) (fun x => ⟨40, [(21, .c (.d (.int .i64 x.i))), (20, .c (.d (.int .i64 (ints l).length))), (19, .c (.d (.sl 0 1 (ints l)))), (2, .c (.ptr 0 0)), (4, .c (.ptr 1 0)), (7, .c (.d (.int .i64 (S : Nat)))), (8, .c (.ptr 3 0))],
        [.frz 2 ((Tm.node k name arg num tk tks uk uks label place ks).cellsR 9 9), .var [.d (.int .i8 0), .d (.str ⟨#[]⟩), .d (.str ⟨#[]⟩), .d (.int .i64 0), .d (.int .i8 0), .d .nils, .d (.int .i8 0), .d .nils, .d (.int .i64 0), .d (.int .i64 0), .d .nils],
         .mp (.int .i64) (imany (l.take x.i) (0, [])).1 (encI (imany (l.take x.i) (0, [])).2), .var [.mp 2]], []⟩)
      (fun x => l.length - x.i) ⟨0, Nat.zero_le _, rfl⟩ 4 (fun _ => rfl) (Nat.le_of_ble_eq_true rfl) ⟨⟨rfl, rfl, rfl, rfl, rfl, rfl, rfl, trivial⟩, rfl, rfl, ⟨[], by simp only [List.take_zero, imany, encI_nil]; rfl⟩, rfl⟩ (fun x => ?_)
    obtain ⟨i, hi, hok⟩ := x
    repeat' first | refine AW.seq ?_ | refine AW.block ?_ | ((first | refine AW.region tab_ok ?_ | refine AW.cond ?_ | refine AW.skip ?_ | refine AW.ret ?_ | refine AW.exit ?_); conv => whnf) | ((first | refine And.intro (@rfl Val _) ?_ | refine And.intro (by decide) ?_ | refine cs (fun _ => ?_) (fun _ => ?_)) <;> conv => whnf)
    · rename_i g1
      have g1 : (i : Int) < ((ints l).length : Nat) := of_decide_eq_true g1
      refine ⟨⟨by simp only; omega, g1⟩, fun row hrow => ?_⟩
      rw [ints_len] at g1
      have hlt : i < l.length := by omega
      obtain ⟨s, hs1, rfl⟩ := ints_get (by simpa using hrow)
      have htk : l.take (i + 1) = l.take i ++ [s] := by rw [List.take_add_one, hs1]; rfl
      have hin := List.mem_of_getElem? hs1
      have hno : ¬ (0 ≤ s ∧ s < S) → inSp S l = false := fun hn => by
        cases hq : inSp S l with
        | false => rfl
        | true =>
          have := List.all_eq_true.1 hq s hin
          simp at this
          exact absurd this hn
      have hye : 0 ≤ s → s < S → inSp S (l.take (i + 1)) = true := fun h1 h2 => by
        rw [htk, inSp_snoc, hok]; simp [h1, h2]
      have hmp : imany (l.take (i + 1)) (0, []) = iput s (IntKind.i64.wrap (ival s (imany (l.take i) (0, [])).2 + 1)) (imany (l.take i) (0, [])) := by rw [htk, imany_snoc]
      conv => whnf
      repeat' first | ((refine ilook_of ?_; conv => whnf)) | ((refine iput_of ?_; conv => whnf)) | refine AW.seq ?_ | refine AW.block ?_ | ((first | refine AW.region tab_ok ?_ | refine AW.cond ?_ | refine AW.skip ?_ | refine AW.ret ?_ | refine AW.exit ?_); conv => whnf) | ((first | refine And.intro (@rfl Val _) ?_ | refine And.intro (by decide) ?_ | refine cs (fun _ => ?_) (fun _ => ?_)) <;> conv => whnf)
      · rename_i g2
        have g2 := of_decide_eq_true g2
        rw [hno (by omega)]
        exact ⟨rfl, rfl⟩
      · rename_i g2 g3
        have g2 := of_decide_eq_false g2
        have g3 : s ≥ (S : Nat) := of_decide_eq_true g3
        rw [hno (by omega)]
        exact ⟨rfl, rfl⟩
      · rename_i g2 g3
        have g2 := of_decide_eq_false g2
        have g3 : ¬ s ≥ (S : Nat) := of_decide_eq_false g3
        rw [← hmp, wrap64 (x := (i : Int) + 1) (by omega) (by omega)]
        exact ⟨⟨i + 1, by omega, hye (by omega) (by omega)⟩, ⟨⟨rfl, rfl, rfl, rfl, rfl, rfl, rfl, trivial⟩, rfl, rfl, ⟨[], rfl⟩, rfl⟩, show l.length - (i + 1) < l.length - i by omega⟩
    · rename_i g1
      have g1 : ¬ (i : Int) < ((ints l).length : Nat) := of_decide_eq_false g1
      rw [ints_len] at g1
      obtain rfl : i = l.length := by omega
      rw [List.take_length] at hok
      rw [if_pos hok, if_pos hok]
      have hT : leT (leBA (imany l (0, [])).2) (.node k name arg num tk tks uk uks label place ks) 0 = LT (imany l (0, [])) := by rw [← hL]
      have c4 := c3 (imany l (0, []))
      rw [hT] at c4 ⊢
      simp only [List.take_length]
      generalize LT (imany l (0, [])) = q at *
      generalize imany l (0, []) = mm at *
      obtain ⟨ck, ml⟩ := mm
      clear hT hL
      obtain ⟨kq, nq, gq, uq, tkq, tsq, ukq, usq, lq, pq, ksq⟩ := q
      repeat' first | refine AW.seq ?_ | refine AW.block ?_ | ((first | refine AW.region tab_ok ?_ | refine AW.cond ?_ | refine AW.skip ?_ | refine AW.ret ?_ | refine AW.exit ?_); conv => whnf) | (refine (c4).mono ?_; rintro _ _ ⟨rfl, rfl⟩; conv => whnf) | ((first | refine And.intro (@rfl Val _) ?_ | refine And.intro (by decide) ?_ | refine cs (fun _ => ?_) (fun _ => ?_)) <;> conv => whnf)
      exact ⟨rfl, rfl⟩
  · have eE : atE t l = soundE t := by simp [atE, h]
    have eT : atT t l = tm0 := by simp [atT, eE, h]
    rw [eE, eT]
    generalize soundE t = S at *
    clear eE eT ra
    obtain ⟨k, name, arg, num, tk, tks, uk, uks, label, place, ks⟩ := t
    refine ACall.body tab_ok (ρ := 2) (N := 40) Try.func9 rfl rfl rfl rfl rfl ?_
    repeat' first | ((refine cs (fun _ => ?_) (fun g => absurd g (by simpa using h)); conv => whnf)) | refine AW.seq ?_ | refine AW.block ?_ | ((first | refine AW.region tab_ok ?_ | refine AW.cond ?_ | refine AW.skip ?_ | refine AW.ret ?_ | refine AW.exit ?_); conv => whnf) | (refine (c1).mono ?_; rintro _ _ ⟨rfl, rfl⟩; conv => whnf) | ((first | refine And.intro (@rfl Val _) ?_ | refine And.intro (by decide) ?_ | refine cs (fun _ => ?_) (fun _ => ?_)) <;> conv => whnf)
    exact ⟨rfl, rfl⟩
end Go.Proofs.Ytlboogackecjlaa.E

/- From a row's reading of an argument to a tree. No conditions. -/
set_option linter.unusedVariables false
set_option linter.unusedSimpArgs false
namespace Go.Proofs.Ytlboogackecjlaa.E
open Go Go.RowKit

/-- All that was there is one region. -/
def rgAll (w : World) : Nat → Option Nat := fun b => if b < w.heap.size then some 0 else none
def czAll (w : World) : Cz := ⟨[], rgAll w⟩
theorem inv_all (w : World) : Inv w (czAll w) [] :=
  ⟨rfl, fun i o e h => by simp at h, fun i o e b h => by simp at h, fun i j o p e f b h => by simp at h, fun b r h => by
    simp only [czAll, rgAll] at h
    split at h
    · assumption
    · cases h⟩

theorem cell_parts {w : World} {a : Addr} {v : Value} (h : w.cell? a = some v) : a.spot = none ∧ ∃ cs e fz, w.heap[a.block]? = some (.cells cs e fz) ∧ cs[a.off]? = some v := by
  have hs := World.cell?_spot h
  refine ⟨hs, ?_⟩
  unfold World.cell? at h
  split at h
  · rename_i cs e fz hh
    exact ⟨cs, e, fz, hh, by simpa [hs] using h⟩
  · cases h

noncomputable def fld (t i : Nat) : Field := match Try.prog.underlying t with
  | some (.struct fs) => fs.getD i default
  | _ => default
theorem u30 : Try.prog.underlying 25 = some (.struct #[fld 25 0, fld 25 1]) := by kernel_rfl
theorem f30_0 : (fld 25 0).type = 22 ∧ (fld 25 0).offset = 0 := ⟨by kernel_rfl, by kernel_rfl⟩
theorem f30_1 : (fld 25 1).type = 23 ∧ (fld 25 1).offset = 1 := ⟨by kernel_rfl, by kernel_rfl⟩
theorem u28 : Try.prog.underlying 23 = some (.slice 25) := by kernel_rfl
theorem u27 : Try.prog.underlying 22 = some (.int .i8) := by kernel_rfl
theorem c30 : Try.prog.cellsOf 25 = 2 := by kernel_rfl
theorem c28 : Try.prog.cellsOf 23 = 1 := by kernel_rfl
theorem c27 : Try.prog.cellsOf 22 = 1 := by kernel_rfl

/-- The cells of a value stand for the data. -/
def Stand (w : World) (cs : List Value) (xs : List DV) : Prop := cs.length = xs.length ∧ ∀ (i : Nat) v x, cs[i]? = some v → xs[i]? = some x → RepD w (rgAll w) v x

section
variable {H : Type} {enc : TypeId × Value → H} {w : World} {base : Nat} {spare : Nat → Bool} {held : Bool}

theorem list_of {α : Type} {Q : Nat → α → Prop} : ∀ n, (∀ i, i < n → ∃ x, Q i x) → ∃ xs : List α, xs.length = n ∧ ∀ (i : Nat) x, xs[i]? = some x → Q i x
  | 0, _ => ⟨[], rfl, fun i x h => by simp at h⟩
  | n + 1, h => by
    obtain ⟨xs, h1, h2⟩ := list_of n (fun i hi => h i (by omega))
    obtain ⟨x, hx⟩ := h n (by omega)
    refine ⟨xs ++ [x], by simp [h1], fun i y hy => ?_⟩
    by_cases hi : i < n
    · rw [List.getElem?_append_left (by omega)] at hy
      exact h2 i y hy
    · rw [List.getElem?_append_right (by omega)] at hy
      cases he : i - xs.length with
      | zero =>
        rw [he] at hy
        simp at hy
        subst hy
        obtain rfl : i = n := by omega
        exact hx
      | succ k => rw [he] at hy; simp at hy

theorem add_none (b o k : Nat) : (⟨b, o, none⟩ : Addr).add k = ⟨b, o + k, none⟩ := by
  unfold Addr.add
  split
  · rename_i h; subst h; rfl
  · rfl

/-- A slice, from its elements. -/
theorem stand_slice {α : Type} (sz : Nat) (hsz : 0 < sz) (f : α → List DV) (hf : ∀ x, (f x).length = sz) {a : Addr} {len cap : Nat} (hlc : len ≤ cap) (h : ∀ i, i < len → ∃ x cs, w.cells? base (a.add (i * sz)) sz = some cs ∧ Stand w cs (f x)) :
    ∃ xs : List α, xs.length = len ∧ RepD w (rgAll w) (.slice (some a) len cap) (.sl 0 sz (xs.map f)) := by
  obtain ⟨xs, hx1, hx2⟩ := list_of len h
  refine ⟨xs, hx1, ?_⟩
  cases xs with
  | nil =>
    simp at hx1
    subst hx1
    exact .sl0 (some a) 0 sz cap
  | cons x0 xr =>
    obtain ⟨cs0, g1, g2⟩ := hx2 0 x0 rfl
    obtain ⟨_, g3, g4⟩ := World.cells?_some g1
    have hc0 := g4 0 hsz
    rw [List.getElem?_eq_getElem (by omega)] at hc0
    obtain ⟨k1, cs, e, fz, k2, k3⟩ := cell_parts hc0
    obtain ⟨b, o, spot⟩ := a
    have hspot : spot = none := by simpa [Addr.add] using k1
    subst hspot
    simp only [Nat.zero_mul, add_none, Nat.add_zero] at k2
    have hlt : b < w.heap.size := by
      rcases Nat.lt_or_ge b w.heap.size with h | h
      · exact h
      · rw [Array.getElem?_eq_none h] at k2; cases k2
    have hcell : ∀ (j i : Nat) x, (x0 :: xr)[j]? = some x → i < sz → ∃ v, cs[o + j * sz + i]? = some v ∧ ∀ y, (f x)[i]? = some y → RepD w (rgAll w) v y := fun j i x hj hi => by
      obtain ⟨cs', q1, q2, q3⟩ := hx2 j x hj
      obtain ⟨_, q4, q5⟩ := World.cells?_some q1
      have q6 := q5 i hi
      rw [List.getElem?_eq_getElem (by omega)] at q6
      obtain ⟨_, cs2, e2, fz2, r2, r3⟩ := cell_parts q6
      simp only [add_none] at r2 r3
      rw [k2] at r2
      cases r2
      exact ⟨_, r3, fun y hy => q3 i _ y (List.getElem?_eq_getElem (by omega)) hy⟩
    refine .sl 0 sz b o len cap _ cs e fz (fun j i => (cs[o + j * sz + i]?).getD undef) ⟨⟨0, by simp [rgAll, hlt], rfl, .inl rfl⟩, fun h => by rcases h with h | h <;> cases h⟩ k2 (by simpa using hx1.symm) hlc (fun row hr => ?_) (fun j i hj hi => ?_) (fun j i row y hj hi => ?_)
    · obtain ⟨x, _, rfl⟩ := List.mem_map.1 hr
      exact hf x
    · obtain ⟨v, hv, _⟩ := hcell j i _ (List.getElem?_eq_getElem (by omega)) hi
      rw [hv]; rfl
    · rw [List.getElem?_map] at hj
      cases hjx : (x0 :: xr)[j]? with
      | none => rw [hjx] at hj; cases hj
      | some x =>
        rw [hjx] at hj
        cases hj
        have hil : i < sz := by
          have := (List.getElem?_eq_some_iff.1 hi).1
          rw [hf] at this; exact this
        obtain ⟨v, hv, hr⟩ := hcell j i x hjx hil
        show RepD w (rgAll w) ((cs[o + j * sz + i]?).getD undef) y
        rw [hv]
        exact hr y hi

theorem rows_map : ∀ ks : List Ty, Ty.rows ks = ks.map Ty.cells
  | [] => rfl
  | t :: l => by simp [Ty.rows, rows_map l]
theorem cells_len (t : Ty) : t.cells.length = 2 := by cases t; rfl

end

/-- What was there is as it was. -/
theorem below_same {w w' : World} (h : Below w.heap.size w w') {p : MemPlace} (hp : p.block < w.heap.size) : w.sameAt w' p := by
  cases p with
  | cell b off =>
    show w'.cell? _ = w.cell? _
    unfold World.cell?
    rw [h.block b hp]
  | map b => exact h.block b hp
end Go.Proofs.Ytlboogackecjlaa.E
