/- Texts, merged: Cs5, Cs6m. No conditions. -/
import Derived.Test.YtlboogackecjlaaGenX9
import Derived.Test.YtlboogackecjlaaGenX4
/- Walks: casts.each with both closures, All, Safe. No conditions. -/
set_option linter.unusedVariables false
set_option linter.unusedSimpArgs false
namespace Go.Proofs.Ytlboogackecjlaa.E
open Go

/-- A cast: from, to, label. -/
inductive Ct where
  | mk (tk : Int) (tks : List Ty) (uk : Int) (uks : List Ty) (label : Int)
def Ct.cells : Ct → List DV
  | .mk tk tks uk uks label => [.int .i8 tk, .sl 0 2 (Ty.rows tks), .int .i8 uk, .sl 0 2 (Ty.rows uks), .int .i64 label]
def crows (l : List Ct) : List (List DV) := l.map Ct.cells
theorem crows_length (l : List Ct) : (crows l).length = l.length := by simp [crows]
theorem crows_snoc (l : List Ct) (c : Ct) : crows (l ++ [c]) = crows l ++ [c.cells] := by simp [crows]
mutual
def tcasts : Tm → List Ct
  | .node k name arg num tk tks uk uks label place ks => (if k = 17 then [Ct.mk tk tks uk uks label] else []) ++ tcastss ks
def tcastss : List Tm → List Ct
  | [] => []
  | t :: l => tcasts t ++ tcastss l
end
theorem tcastss_take : ∀ (ks : List Tm) (i : Nat) t, ks[i]? = some t → tcastss (ks.take (i + 1)) = tcastss (ks.take i) ++ tcasts t
  | x :: l, 0, t, h => by simp at h; subst h; simp [tcastss]
  | x :: l, i + 1, t, h => by
    simp only [List.getElem?_cons_succ] at h
    have := tcastss_take l i t h
    simp only [List.take_succ_cons, tcastss, this, List.append_assoc]
theorem tcasts_len (t : Tm) : (tcasts t).length ≤ tmN t := by
  induction t using Tm.ind with
  | _ k name arg num tk tks uk uks label place ks ih =>
  have : ∀ l : List Tm, (∀ t ∈ l, (tcasts t).length ≤ tmN t) → (tcastss l).length ≤ tmNL l := fun l => by
    induction l with
    | nil => intro _; simp [tcastss, tmNL]
    | cons x l ihl =>
      intro h
      have h1 := h x (by simp)
      have h2 := ihl fun t ht => h t (by simp [ht])
      simp only [tcastss, tmNL, List.length_append]
      omega
  have := this ks ih
  simp only [tcasts, tmN, List.length_append]
  split <;> simp <;> omega
theorem tcastss_len (ks : List Tm) : (tcastss ks).length ≤ tmNL ks := by
  induction ks with
  | nil => simp [tcastss, tmNL]
  | cons x l ih =>
    have := tcasts_len x
    simp only [tcastss, tmNL, List.length_append]
    omega
/-! ### All -/
set_option maxRecDepth 10000 in
theorem all1_call (k : Int) (name arg : ByteArray) (num tk : Int) (tks : List Ty) (uk : Int) (uks : List Ty) (label place : Int) (ks : List Tm) (pre : List Ct) (hp : pre.length ≤ 100000) (n1 : nodes (.node tk tks) ≤ 8192) (n2 : nodes (.node uk uks) ≤ 8192) :
    ACall Try.prog 42 [.c (.d (.rp 0 (Tm.node k name arg num tk tks uk uks label place ks).cells)), .c (.ptr 0 0)] [.var [.own 1 (crows pre).length], .row 44 5 (crows pre)]
      (fun o σ => o = .ret (.tup []) ∧ σ = [.var [.own 1 (crows (pre ++ [.mk tk tks uk uks label])).length], .row 44 5 (crows (pre ++ [.mk tk tks uk uks label]))]) := by
  have w1 := cwhole_call _ n1
  have w2 := cwhole_call _ n2
  have e := crows_snoc pre (.mk tk tks uk uks label)
  have el : (crows pre).length + [Ct.cells (.mk tk tks uk uks label)].length = (crows (pre ++ [.mk tk tks uk uks label])).length := by rw [e, List.length_append]
  rw [← el, e]
  have hl := crows_length pre
  generalize crows pre = rr at *
  clear el e
  refine ACall.body tab_ok (ρ := 0) (N := 21) Try.func42 rfl rfl rfl rfl rfl ?_
  repeat' first | refine AW.seq ?_ | refine AW.block ?_ | (refine (id : AW _ _ _ (.region 0 _ true) _ _ → _) ?_; refine AW.draw (id := 0) tab_ok mixed [0, 1, 2, 3, 4, 6, 7, 8, 9, 11, 12, 13, 14, 5, 10, 15, 16, 17, 18] (by kernel_rfl) ?_; conv => whnf) | ((first | refine AW.region tab_ok ?_ | refine AW.cond ?_ | refine AW.skip ?_ | refine AW.ret ?_ | refine AW.exit ?_); conv => whnf) | ((first | refine (w1).mono ?_ | refine (w2).mono ?_); rintro _ _ ⟨rfl, rfl⟩; conv => whnf) | ((first | refine And.intro (@rfl Val _) ?_ | refine And.intro (by decide) ?_ | refine cs (fun _ => ?_) (fun _ => ?_)) <;> conv => whnf)
  refine ⟨⟨rfl, ?_, ?_⟩, ?_⟩
  · simp only [List.length_cons, List.length_nil]; omega
  · simp only [List.length_cons, List.length_nil]; omega
  conv => whnf
  repeat' first | refine AW.seq ?_ | refine AW.block ?_ | (refine (id : AW _ _ _ (.region 0 _ true) _ _ → _) ?_; refine AW.draw (id := 0) tab_ok mixed [0, 1, 2, 3, 4, 6, 7, 8, 9, 11, 12, 13, 14, 5, 10, 15, 16, 17, 18] (by kernel_rfl) ?_; conv => whnf) | ((first | refine AW.region tab_ok ?_ | refine AW.cond ?_ | refine AW.skip ?_ | refine AW.ret ?_ | refine AW.exit ?_); conv => whnf) | ((first | refine And.intro (@rfl Val _) ?_ | refine And.intro (by decide) ?_ | refine cs (fun _ => ?_) (fun _ => ?_)) <;> conv => whnf)
  first | exact ⟨rfl, rfl⟩ | exact ⟨trivial, rfl⟩
def allR (l : List Ct) (o : Out) (σ : List AObj) : Prop := o = .ret (.tup []) ∧ σ = [.var [.own 1 (crows l).length], .row 44 5 (crows l)]
noncomputable def rest101 : Code := match Try.f41.body with
  | some (.seq _ c) => c
  | _ => .skip
set_option maxRecDepth 10000 in
theorem eachA_rest (k : Int) (name arg : ByteArray) (num tk : Int) (tks : List Ty) (uk : Int) (uks : List Ty) (label place : Int) (ks : List Tm) (pre : List Ct) (hlen : ks.length ≤ 8192)
    (ih : ∀ (i : Nat) t, ks[i]? = some t → ACall Try.prog 41 [.c (.d (.rp 0 t.cells)), .c (.fn 42 [] [.ptr 0 0])] [.var [.own 1 (crows (pre ++ tcastss (ks.take i))).length], .row 44 5 (crows (pre ++ tcastss (ks.take i)))] (allR (pre ++ tcastss (ks.take i) ++ tcasts t))) :
    AW Try.prog tab 0 rest101 ⟨30, [(0, .c (.d (.rp 0 (Tm.node k name arg num tk tks uk uks label place ks).cells))), (1, .c (.fn 42 [] [.ptr 0 0]))], [.var [.own 1 (crows pre).length], .row 44 5 (crows pre)], []⟩
      (afin tab 0 41 [] 2 (allR (pre ++ tcastss ks))) := by
  repeat' first | refine AW.seq ?_ | refine AW.block ?_ | ((first | refine AW.region tab_ok ?_ | refine AW.cond ?_ | refine AW.skip ?_ | refine AW.ret ?_ | refine AW.exit ?_); conv => whnf) | ((first | refine And.intro (@rfl Val _) ?_ | refine And.intro (by decide) ?_ | refine cs (fun _ => ?_) (fun _ => ?_)) <;> conv => whnf)
  refine AW.loop (ι := UpToT ks) (fun x => ⟨30, [(18, .c (.d (.int .i64 x.i))), (17, .c (.d (.int .i64 (Tm.rows ks).length))), (0, .c (.d (.rp 0 (Tm.node k name arg num tk tks uk uks label place ks).cells))), (1, .c (.fn 42 [] [.ptr 0 0]))], [.var [.own 1 (crows (pre ++ tcastss (ks.take x.i))).length], .row 44 5 (crows (pre ++ tcastss (ks.take x.i)))], []⟩)
    (fun x => ks.length - x.i) ⟨0, Nat.zero_le _⟩ 2 (fun _ => rfl) (Nat.le_of_ble_eq_true rfl) ⟨⟨rfl, rfl, rfl, rfl, trivial⟩, rfl, rfl, ⟨[], ?_⟩, rfl⟩ (fun x => ?_)
  · simp [tcastss]
  obtain ⟨i, hi⟩ := x
  repeat' first | refine AW.seq ?_ | refine AW.block ?_ | ((first | refine AW.region tab_ok ?_ | refine AW.cond ?_ | refine AW.skip ?_ | refine AW.ret ?_ | refine AW.exit ?_); conv => whnf) | ((first | refine And.intro (@rfl Val _) ?_ | refine And.intro (by decide) ?_ | refine cs (fun _ => ?_) (fun _ => ?_)) <;> conv => whnf)
  · rename_i h1
    simp only [trows_length] at h1
    have := of_decide_eq_true h1
    refine ⟨by simp only [trows_length]; omega, fun row hrow => ?_⟩
    obtain ⟨t, ht, rfl⟩ := trows_get ks i row (by simpa using hrow)
    have hlt : i < ks.length := (List.getElem?_eq_some_iff.1 ht).1
    have hc := ih i t ht
    have hn := tcastss_take ks i _ ht
    conv => whnf
    repeat' first | refine AW.seq ?_ | refine AW.block ?_ | ((first | refine AW.region tab_ok ?_ | refine AW.cond ?_ | refine AW.skip ?_ | refine AW.ret ?_ | refine AW.exit ?_); conv => whnf) | ((first | refine And.intro (@rfl Val _) ?_ | refine And.intro (by decide) ?_ | refine cs (fun _ => ?_) (fun _ => ?_)) <;> conv => whnf)
    refine hc.mono ?_
    rintro _ _ ⟨rfl, rfl⟩
    conv => whnf
    repeat' first | refine AW.seq ?_ | refine AW.block ?_ | ((first | refine AW.region tab_ok ?_ | refine AW.cond ?_ | refine AW.skip ?_ | refine AW.ret ?_ | refine AW.exit ?_); conv => whnf) | ((first | refine And.intro (@rfl Val _) ?_ | refine And.intro (by decide) ?_ | refine cs (fun _ => ?_) (fun _ => ?_)) <;> conv => whnf)
    rw [List.append_assoc, ← hn, wrap64 (x := (i : Int) + 1) (by omega) (by omega)]
    exact ⟨⟨i + 1, hlt⟩, ⟨⟨rfl, rfl, rfl, rfl, trivial⟩, rfl, rfl, ⟨[], rfl⟩, rfl⟩, show ks.length - (i + 1) < ks.length - i by omega⟩
  · rename_i h1
    simp only [trows_length] at h1
    have := of_decide_eq_false h1
    obtain rfl : i = ks.length := by omega
    simp only [List.take_length]
    first | exact ⟨rfl, rfl⟩ | exact ⟨rfl, trivial⟩ | exact ⟨trivial, rfl⟩
set_option maxRecDepth 10000 in
theorem eachA_call (t : Tm) : ∀ pre : List Ct, tmN t ≤ 8192 → pre.length + tmN t ≤ 90000 → tmright t = true → ACall Try.prog 41 [.c (.d (.rp 0 t.cells)), .c (.fn 42 [] [.ptr 0 0])] [.var [.own 1 (crows pre).length], .row 44 5 (crows pre)] (allR (pre ++ tcasts t)) := by
  induction t using Tm.ind with
  | _ k name arg num tk tks uk uks label place ks ih =>
  intro pre hN hp ha
  have hlen := tmNL_len ks
  simp only [tmN] at hN hp
  have hv := tmright_valid ha
  have ih' : ∀ pre : List Ct, pre.length + tmNL ks ≤ 90000 → ∀ (i : Nat) t, ks[i]? = some t → ACall Try.prog 41 [.c (.d (.rp 0 t.cells)), .c (.fn 42 [] [.ptr 0 0])] [.var [.own 1 (crows (pre ++ tcastss (ks.take i))).length], .row 44 5 (crows (pre ++ tcastss (ks.take i)))] (allR (pre ++ tcastss (ks.take i) ++ tcasts t)) := fun pre hp i t ht => by
    have hm := List.mem_of_getElem? ht
    have hn := tmN_mem ks t hm
    have h1 := tcastss_len (ks.take i)
    have h2 := tmNL_take ks i t ht
    have h3 := tmNL_le ks (i + 1)
    exact ih t hm _ (by omega) (by simp only [List.length_append]; omega) (tmright_kid ha hm)
  have fin : ∀ pre' : List Ct, pre'.length + tmNL ks ≤ 90000 → pre' ++ tcastss ks = pre ++ tcasts (.node k name arg num tk tks uk uks label place ks) → ∀ env, get env 0 = .c (.d (.rp 0 (Tm.node k name arg num tk tks uk uks label place ks).cells)) → get env 1 = .c (.fn 42 [] [.ptr 0 0]) →
      AW Try.prog tab 0 rest101 ⟨30, env, [.var [.own 1 (crows pre').length], .row 44 5 (crows pre')], []⟩ (afin tab 0 41 Try.f41.results.toList ([.var [], .var []] : List AObj).length (allR (pre ++ tcasts (.node k name arg num tk tks uk uks label place ks)))) := fun pre' hp' e env g0 g1 => by
    rw [← e]
    refine AW.fits ?_ ?_ (eachA_rest k name arg num tk tks uk uks label place ks pre' (by omega) (ih' pre' hp'))
    · exact ⟨⟨g0, g1, trivial⟩, rfl, rfl, ⟨[], rfl⟩, rfl⟩
    · rfl
  by_cases hk : k = 17
  · subst hk
    have c1 := all1_call 17 name arg num tk tks uk uks label place ks pre (by omega) (by rw [if_pos (show typeK 17 = true from rfl)] at hN; omega) (by rw [if_pos (show toK 17 = true from rfl)] at hN; omega)
    have f1 := fin (pre ++ [.mk tk tks uk uks label]) (by simp only [List.length_append, List.length_cons, List.length_nil]; omega) (by simp [tcasts])
    clear ih ih' fin ha hlen hN hp hv
    refine ACall.body tab_ok (ρ := 0) (N := 30) Try.func41 rfl rfl rfl rfl rfl ?_
    skip
    repeat' first | (exact f1 _ rfl rfl) | refine AW.seq ?_ | refine AW.block ?_ | ((first | refine AW.region tab_ok ?_ | refine AW.cond ?_ | refine AW.skip ?_ | refine AW.ret ?_ | refine AW.exit ?_); conv => whnf) | (refine (c1).mono ?_; rintro _ _ ⟨rfl, rfl⟩; conv => whnf) | ((first | refine And.intro (@rfl Val _) ?_ | refine And.intro (by decide) ?_ | refine cs (fun _ => ?_) (fun _ => ?_)) <;> conv => whnf)
  · have f1 := fin pre (by omega) (by simp [tcasts, hk])
    have hb : (k == 17) = false := by simpa using hk
    clear ih ih' fin ha hlen hN hp hv
    refine ACall.body tab_ok (ρ := 0) (N := 30) Try.func41 rfl rfl rfl rfl rfl ?_
    skip
    repeat' first | (exact f1 _ rfl rfl) | refine AW.seq ?_ | refine AW.block ?_ | ((first | refine AW.region tab_ok ?_ | refine AW.cond ?_ | refine AW.skip ?_ | refine AW.ret ?_ | refine AW.exit ?_); conv => whnf) | ((first | refine And.intro (@rfl Val _) ?_ | refine And.intro (by decide) ?_ | refine cs (fun _ => ?_) (fun _ => ?_)) <;> conv => whnf)
    all_goals (rename_i h; rw [hb] at h; cases h)
def tcastsS (t : Tm) : List Ct := if tmcheck t = 0 then tcasts t else []
noncomputable def rest51 : Code := match Try.f17.body with
  | some (.seq _ (.seq _ (.seq _ c))) => c
  | _ => .skip
set_option maxRecDepth 10000 in
theorem All_rest (k : Int) (name arg : ByteArray) (num tk : Int) (tks : List Ty) (uk : Int) (uks : List Ty) (label place : Int) (ks : List Tm) (m : List Ct) (c2 : ACall Try.prog 41 [.c (.d (.rp 0 (Tm.node k name arg num tk tks uk uks label place ks).cells)), .c (.fn 42 [] [.ptr 0 0])] [.var [.own 1 0], .row 44 5 []] (allR m)) :
    AW Try.prog tab 0 rest51 ⟨10, [(1, .c (.ptr 0 0)), (3, .c (.ptr 1 0))], [.var [.d (.int .i8 k), .d (.str name), .d (.str arg), .d (.int .i64 num), .d (.int .i8 tk), .d (.sl 0 2 (Ty.rows tks)), .d (.int .i8 uk), .d (.sl 0 2 (Ty.rows uks)), .d (.int .i64 label), .d (.int .i64 place), .d (.sl 0 11 (Tm.rows ks))], .var [.d .nils]], []⟩ (afin tab 0 17 [.tmp 2] 0 (fun o σ => o = .ret (.c (.d (.sl 0 5 (crows m)))) ∧ σ = [])) := by
  refine AW.ghost 44 5 1 0 (by decide) rfl rfl ?_
  repeat' first | refine AW.seq ?_ | refine AW.block ?_ | ((first | refine AW.region tab_ok ?_ | refine AW.cond ?_ | refine AW.skip ?_ | refine AW.ret ?_ | refine AW.exit ?_); conv => whnf) | ((first | refine And.intro (@rfl Val _) ?_ | refine And.intro (by decide) ?_ | refine cs (fun _ => ?_) (fun _ => ?_)) <;> conv => whnf)
  refine c2.mono ?_
  rintro _ _ ⟨rfl, rfl⟩
  conv => whnf
  repeat' first | refine AW.seq ?_ | refine AW.block ?_ | ((first | refine AW.region tab_ok ?_ | refine AW.cond ?_ | refine AW.skip ?_ | refine AW.ret ?_ | refine AW.exit ?_); conv => whnf) | ((first | refine And.intro (@rfl Val _) ?_ | refine And.intro (by decide) ?_ | refine cs (fun _ => ?_) (fun _ => ?_)) <;> conv => whnf)
  first | exact ⟨rfl, rfl⟩ | exact ⟨rfl, rfl, rfl⟩ | trace_state
set_option maxRecDepth 10000 in
theorem All_call (t : Tm) : ACall Try.prog 17 [t.val] [] (fun o σ => o = .ret (.c (.d (.sl 0 5 (crows (tcastsS t))))) ∧ σ = []) := by
  have c1 := tmCheck_call t
  have c2 : tmcheck t = 0 → ACall Try.prog 41 [.c (.d (.rp 0 t.cells)), .c (.fn 42 [] [.ptr 0 0])] [.var [.own 1 0], .row 44 5 []] (allR (tcastsS t)) := fun h => by
    rw [show tcastsS t = [] ++ tcasts t by simp [tcastsS, h]]
    exact eachA_call t [] (tmcheck_N h) (by have := tmcheck_N h; simp; omega) (tmcheck_right h)
  have e3 : tmcheck t ≠ 0 → tcastsS t = [] := fun h => by simp [tcastsS, h]
  generalize tmcheck t = cc at *
  generalize tcastsS t = m at *
  obtain ⟨k, name, arg, num, tk, tks, uk, uks, label, place, ks⟩ := t
  have fin : cc = 0 → ∀ env, get env 1 = .c (.ptr 0 0) → get env 3 = .c (.ptr 1 0) → AW Try.prog tab 0 rest51 ⟨10, env, [.var [.d (.int .i8 k), .d (.str name), .d (.str arg), .d (.int .i64 num), .d (.int .i8 tk), .d (.sl 0 2 (Ty.rows tks)), .d (.int .i8 uk), .d (.sl 0 2 (Ty.rows uks)), .d (.int .i64 label), .d (.int .i64 place), .d (.sl 0 11 (Tm.rows ks))], .var [.d .nils]], []⟩ (afin tab 0 17 Try.f17.results.toList ([] : List AObj).length (fun o σ => o = .ret (.c (.d (.sl 0 5 (crows m)))) ∧ σ = [])) := fun h env g1 g3 => by
    refine AW.fits ?_ ?_ (All_rest k name arg num tk tks uk uks label place ks m (c2 h))
    · exact ⟨⟨g1, g3, trivial⟩, rfl, rfl, ⟨[], rfl⟩, rfl⟩
    · rfl
  by_cases h0 : cc = 0
  · have f1 := fin h0
    clear c2 e3 fin
    subst h0
    refine ACall.body tab_ok (ρ := 0) (N := 10) Try.func17 rfl rfl rfl rfl rfl ?_
    skip
    repeat' first | (exact f1 _ rfl rfl) | refine AW.seq ?_ | refine AW.block ?_ | ((first | refine AW.region tab_ok ?_ | refine AW.cond ?_ | refine AW.skip ?_ | refine AW.ret ?_ | refine AW.exit ?_); conv => whnf) | (refine (c1).mono ?_; rintro _ _ ⟨rfl, rfl⟩; conv => whnf) | ((first | refine And.intro (@rfl Val _) ?_ | refine And.intro (by decide) ?_ | refine cs (fun _ => ?_) (fun _ => ?_)) <;> conv => whnf)
  · rw [e3 h0]
    clear c2 fin
    refine ACall.body tab_ok (ρ := 0) (N := 10) Try.func17 rfl rfl rfl rfl rfl ?_
    skip
    repeat' first | refine AW.seq ?_ | refine AW.block ?_ | ((first | refine AW.region tab_ok ?_ | refine AW.cond ?_ | refine AW.skip ?_ | refine AW.ret ?_ | refine AW.exit ?_); conv => whnf) | (refine (c1).mono ?_; rintro _ _ ⟨rfl, rfl⟩; conv => whnf) | ((first | refine And.intro (@rfl Val _) ?_ | refine And.intro (by decide) ?_ | refine cs (fun _ => ?_) (fun _ => ?_)) <;> conv => whnf)
    all_goals first | exact ⟨rfl, rfl⟩ | (exfalso; rename_i h; simp at h; exact h0 h)
end Go.Proofs.Ytlboogackecjlaa.E

/- Walks: casts.each with Safe's closure, Safe, for every label (its other side as the machine tells it). No conditions. -/
set_option linter.unusedVariables false
set_option linter.unusedSimpArgs false
namespace Go.Proofs.Ytlboogackecjlaa.E
open Go

def sstepM (lab : Int) (s : Bool × Bool) (c : Ct) : Bool × Bool :=
  match c with
  | .mk tk tks uk uks label =>
    let up := belowS false (.node tk tks) (.node uk uks)
    let dn := belowS true (.node tk tks) (.node uk uks)
    let s1 := if label == lab then (s.1 && up, s.2 && dn) else s
    if label == IntKind.i64.wrap (0 - lab) then (s1.1 && dn, s1.2 && up) else s1
def sfoldM (lab : Int) (s : Bool × Bool) (l : List Ct) : Bool × Bool := l.foldl (sstepM lab) s
theorem sfold_appendM (lab : Int) (s : Bool × Bool) (l m : List Ct) : sfoldM lab s (l ++ m) = sfoldM lab (sfoldM lab s l) m := by simp [sfoldM]
set_option maxRecDepth 10000 in
theorem safe1_callM (k : Int) (name arg : ByteArray) (num tk : Int) (tks : List Ty) (uk : Int) (uks : List Ty) (label place : Int) (ks : List Tm) (lab : Int) (s : Bool × Bool) :
    ACall Try.prog 46 [.c (.d (.rp 0 (Tm.node k name arg num tk tks uk uks label place ks).cells)), .c (.ptr 0 0), .c (.ptr 1 0), .c (.ptr 2 0)] [.var [.d (.int .i64 lab)], .var [.d (.bool s.1)], .var [.d (.bool s.2)]]
      (fun o σ => o = .ret (.tup []) ∧ σ = [.var [.d (.int .i64 lab)], .var [.d (.bool (sstepM lab s (.mk tk tks uk uks label)).1)], .var [.d (.bool (sstepM lab s (.mk tk tks uk uks label)).2)]]) := by
  have w1 := Pos_call (.node tk tks) (.node uk uks)
  have w2 := Neg_call (.node tk tks) (.node uk uks)
  have e : sstepM lab s (.mk tk tks uk uks label) = (let s1 := if label == lab then (s.1 && belowS false (.node tk tks) (.node uk uks), s.2 && belowS true (.node tk tks) (.node uk uks)) else s
    if label == IntKind.i64.wrap (0 - lab) then (s1.1 && belowS true (.node tk tks) (.node uk uks), s1.2 && belowS false (.node tk tks) (.node uk uks)) else s1) := rfl
  rw [e]
  generalize belowS false (.node tk tks) (.node uk uks) = up at *
  generalize belowS true (.node tk tks) (.node uk uks) = dn at *
  clear e
  obtain ⟨p, n⟩ := s
  refine ACall.body tab_ok (ρ := 0) (N := 54) Try.func46 rfl rfl rfl rfl rfl ?_
  repeat' first | refine AW.seq ?_ | refine AW.block ?_ | (refine (id : AW _ _ _ (.region 0 _ true) _ _ → _) ?_; refine AW.draw (id := 0) tab_ok mixed [0, 1, 2, 3, 4, 5, 6, 7, 9, 10, 11, 12, 13, 14, 15, 16, 8, 17, 18, 19] (by kernel_rfl) ?_; conv => whnf) | (refine (id : AW _ _ _ (.region 1 _ true) _ _ → _) ?_; refine AW.draw (id := 1) tab_ok mixed [0, 1, 2, 3, 4, 5] (by kernel_rfl) ?_; conv => whnf) | (refine (id : AW _ _ _ (.region 3 _ true) _ _ → _) ?_; refine AW.draw (id := 3) tab_ok mixed [0, 1, 2, 3, 4, 5, 6] (by kernel_rfl) ?_; conv => whnf) | ((first | refine AW.region tab_ok ?_ | refine AW.cond ?_ | refine AW.skip ?_ | refine AW.ret ?_ | refine AW.exit ?_); conv => whnf) | ((first | refine (w1).mono ?_ | refine (w2).mono ?_); rintro _ _ ⟨rfl, rfl⟩; conv => whnf) | ((first | refine And.intro (@rfl Val _) ?_ | refine And.intro (by decide) ?_ | refine cs (fun _ => ?_) (fun _ => ?_)) <;> conv => whnf)
  all_goals
    refine ⟨rfl, ?_⟩
    clear w1 w2
    generalize IntKind.i64.wrap (0 - lab) = q at *
    generalize (label == lab) = b1 at *
    generalize (label == q) = b2 at *
    first | (simp_all; done) | trace_state
def safeRM (lab : Int) (s : Bool × Bool) (o : Out) (σ : List AObj) : Prop := o = .ret (.tup []) ∧ σ = [.var [.d (.int .i64 lab)], .var [.d (.bool s.1)], .var [.d (.bool s.2)]]
set_option maxRecDepth 10000 in
theorem eachS_restM (k : Int) (name arg : ByteArray) (num tk : Int) (tks : List Ty) (uk : Int) (uks : List Ty) (label place : Int) (ks : List Tm) (lab : Int) (s : Bool × Bool) (hlen : ks.length ≤ 8192)
    (ih : ∀ (i : Nat) t, ks[i]? = some t → ∀ s : Bool × Bool, ACall Try.prog 41 [.c (.d (.rp 0 t.cells)), .c (.fn 46 [] [.ptr 0 0, .ptr 1 0, .ptr 2 0])] [.var [.d (.int .i64 lab)], .var [.d (.bool s.1)], .var [.d (.bool s.2)]] (safeRM lab (sfoldM lab s (tcasts t)))) :
    AW Try.prog tab 0 rest101 ⟨30, [(0, .c (.d (.rp 0 (Tm.node k name arg num tk tks uk uks label place ks).cells))), (1, .c (.fn 46 [] [.ptr 0 0, .ptr 1 0, .ptr 2 0]))], [.var [.d (.int .i64 lab)], .var [.d (.bool s.1)], .var [.d (.bool s.2)]], []⟩
      (afin tab 0 41 [] 3 (safeRM lab (sfoldM lab s (tcastss ks)))) := by
  repeat' first | refine AW.seq ?_ | refine AW.block ?_ | ((first | refine AW.region tab_ok ?_ | refine AW.cond ?_ | refine AW.skip ?_ | refine AW.ret ?_ | refine AW.exit ?_); conv => whnf) | ((first | refine And.intro (@rfl Val _) ?_ | refine And.intro (by decide) ?_ | refine cs (fun _ => ?_) (fun _ => ?_)) <;> conv => whnf)
  refine AW.loop (ι := UpToT ks) (fun x => ⟨30, [(18, .c (.d (.int .i64 x.i))), (17, .c (.d (.int .i64 (Tm.rows ks).length))), (0, .c (.d (.rp 0 (Tm.node k name arg num tk tks uk uks label place ks).cells))), (1, .c (.fn 46 [] [.ptr 0 0, .ptr 1 0, .ptr 2 0]))], [.var [.d (.int .i64 lab)], .var [.d (.bool (sfoldM lab s (tcastss (ks.take x.i))).1)], .var [.d (.bool (sfoldM lab s (tcastss (ks.take x.i))).2)]], []⟩)
    (fun x => ks.length - x.i) ⟨0, Nat.zero_le _⟩ 3 (fun _ => rfl) (Nat.le_of_ble_eq_true rfl) ⟨⟨rfl, rfl, rfl, rfl, trivial⟩, rfl, rfl, ⟨[], rfl⟩, rfl⟩ (fun x => ?_)
  obtain ⟨i, hi⟩ := x
  repeat' first | refine AW.seq ?_ | refine AW.block ?_ | ((first | refine AW.region tab_ok ?_ | refine AW.cond ?_ | refine AW.skip ?_ | refine AW.ret ?_ | refine AW.exit ?_); conv => whnf) | ((first | refine And.intro (@rfl Val _) ?_ | refine And.intro (by decide) ?_ | refine cs (fun _ => ?_) (fun _ => ?_)) <;> conv => whnf)
  · rename_i h1
    simp only [trows_length] at h1
    have := of_decide_eq_true h1
    refine ⟨by simp only [trows_length]; omega, fun row hrow => ?_⟩
    obtain ⟨t, ht, rfl⟩ := trows_get ks i row (by simpa using hrow)
    have hlt : i < ks.length := (List.getElem?_eq_some_iff.1 ht).1
    have hc := ih i t ht (sfoldM lab s (tcastss (ks.take i)))
    have hn := tcastss_take ks i _ ht
    rw [← sfold_appendM, ← hn] at hc
    conv => whnf
    repeat' first | refine AW.seq ?_ | refine AW.block ?_ | ((first | refine AW.region tab_ok ?_ | refine AW.cond ?_ | refine AW.skip ?_ | refine AW.ret ?_ | refine AW.exit ?_); conv => whnf) | ((first | refine And.intro (@rfl Val _) ?_ | refine And.intro (by decide) ?_ | refine cs (fun _ => ?_) (fun _ => ?_)) <;> conv => whnf)
    refine hc.mono ?_
    rintro _ _ ⟨rfl, rfl⟩
    conv => whnf
    repeat' first | refine AW.seq ?_ | refine AW.block ?_ | ((first | refine AW.region tab_ok ?_ | refine AW.cond ?_ | refine AW.skip ?_ | refine AW.ret ?_ | refine AW.exit ?_); conv => whnf) | ((first | refine And.intro (@rfl Val _) ?_ | refine And.intro (by decide) ?_ | refine cs (fun _ => ?_) (fun _ => ?_)) <;> conv => whnf)
    rw [wrap64 (x := (i : Int) + 1) (by omega) (by omega)]
    exact ⟨⟨i + 1, hlt⟩, ⟨⟨rfl, rfl, rfl, rfl, trivial⟩, rfl, rfl, ⟨[], rfl⟩, rfl⟩, show ks.length - (i + 1) < ks.length - i by omega⟩
  · rename_i h1
    simp only [trows_length] at h1
    have := of_decide_eq_false h1
    obtain rfl : i = ks.length := by omega
    simp only [List.take_length]
    first | exact ⟨rfl, rfl⟩ | exact ⟨rfl, trivial⟩ | exact ⟨trivial, rfl⟩
set_option maxRecDepth 10000 in
theorem eachS_callM (t : Tm) (lab : Int) : ∀ s : Bool × Bool, tmN t ≤ 8192 → ACall Try.prog 41 [.c (.d (.rp 0 t.cells)), .c (.fn 46 [] [.ptr 0 0, .ptr 1 0, .ptr 2 0])] [.var [.d (.int .i64 lab)], .var [.d (.bool s.1)], .var [.d (.bool s.2)]] (safeRM lab (sfoldM lab s (tcasts t))) := by
  induction t using Tm.ind with
  | _ k name arg num tk tks uk uks label place ks ih =>
  intro s hN
  have hlen := tmNL_len ks
  simp only [tmN] at hN
  have ih' : ∀ (i : Nat) t, ks[i]? = some t → ∀ s : Bool × Bool, ACall Try.prog 41 [.c (.d (.rp 0 t.cells)), .c (.fn 46 [] [.ptr 0 0, .ptr 1 0, .ptr 2 0])] [.var [.d (.int .i64 lab)], .var [.d (.bool s.1)], .var [.d (.bool s.2)]] (safeRM lab (sfoldM lab s (tcasts t))) := fun i t ht s => by
    have hm := List.mem_of_getElem? ht
    have hn := tmN_mem ks t hm
    exact ih t hm s (by omega)
  have fin : ∀ s' : Bool × Bool, sfoldM lab s' (tcastss ks) = sfoldM lab s (tcasts (.node k name arg num tk tks uk uks label place ks)) → ∀ env, get env 0 = .c (.d (.rp 0 (Tm.node k name arg num tk tks uk uks label place ks).cells)) → get env 1 = .c (.fn 46 [] [.ptr 0 0, .ptr 1 0, .ptr 2 0]) →
      AW Try.prog tab 0 rest101 ⟨30, env, [.var [.d (.int .i64 lab)], .var [.d (.bool s'.1)], .var [.d (.bool s'.2)]], []⟩ (afin tab 0 41 Try.f41.results.toList ([.var [], .var [], .var []] : List AObj).length (safeRM lab (sfoldM lab s (tcasts (.node k name arg num tk tks uk uks label place ks))))) := fun s' e env g0 g1 => by
    rw [← e]
    refine AW.fits ?_ ?_ (eachS_restM k name arg num tk tks uk uks label place ks lab s' (by omega) ih')
    · exact ⟨⟨g0, g1, trivial⟩, rfl, rfl, ⟨[], rfl⟩, rfl⟩
    · rfl
  by_cases hk : k = 17
  · subst hk
    have c1 := safe1_callM 17 name arg num tk tks uk uks label place ks lab s
    have f1 := fin (sstepM lab s (.mk tk tks uk uks label)) (by simp [tcasts, sfoldM])
    clear ih ih' fin hlen hN
    generalize sstepM lab s (.mk tk tks uk uks label) = s' at *
    refine ACall.body tab_ok (ρ := 0) (N := 30) Try.func41 rfl rfl rfl rfl rfl ?_
    skip
    repeat' first | (exact f1 _ rfl rfl) | refine AW.seq ?_ | refine AW.block ?_ | ((first | refine AW.region tab_ok ?_ | refine AW.cond ?_ | refine AW.skip ?_ | refine AW.ret ?_ | refine AW.exit ?_); conv => whnf) | (refine (c1).mono ?_; rintro _ _ ⟨rfl, rfl⟩; conv => whnf) | ((first | refine And.intro (@rfl Val _) ?_ | refine And.intro (by decide) ?_ | refine cs (fun _ => ?_) (fun _ => ?_)) <;> conv => whnf)
  · have f1 := fin s (by simp [tcasts, hk])
    have hb : (k == 17) = false := by simpa using hk
    clear ih ih' fin hlen hN
    refine ACall.body tab_ok (ρ := 0) (N := 30) Try.func41 rfl rfl rfl rfl rfl ?_
    skip
    repeat' first | (exact f1 _ rfl rfl) | refine AW.seq ?_ | refine AW.block ?_ | ((first | refine AW.region tab_ok ?_ | refine AW.cond ?_ | refine AW.skip ?_ | refine AW.ret ?_ | refine AW.exit ?_); conv => whnf) | ((first | refine And.intro (@rfl Val _) ?_ | refine And.intro (by decide) ?_ | refine cs (fun _ => ?_) (fun _ => ?_)) <;> conv => whnf)
    all_goals (rename_i h; rw [hb] at h; cases h)
def safeSM (lab : Int) (t : Tm) : Bool × Bool := if tmcheck t = 0 then sfoldM lab (true, true) (tcasts t) else (false, false)
set_option maxRecDepth 10000 in
set_option maxHeartbeats 1000000 in
theorem Safe_callM (t : Tm) (lab : Int) : ACall Try.prog 20 [t.val, .c (.d (.int .i64 lab))] [] (fun o σ => o = .ret (.tup [.c (.d (.bool (safeSM lab t).1)), .c (.d (.bool (safeSM lab t).2))]) ∧ σ = []) := by
  have c1 := tmCheck_call t
  have c2 : tmcheck t = 0 → ACall Try.prog 41 [.c (.d (.rp 0 t.cells)), .c (.fn 46 [] [.ptr 0 0, .ptr 1 0, .ptr 2 0])] [.var [.d (.int .i64 lab)], .var [.d (.bool true)], .var [.d (.bool true)]] (safeRM lab (safeSM lab t)) := fun h => by
    rw [show safeSM lab t = sfoldM lab (true, true) (tcasts t) by simp [safeSM, h]]
    exact eachS_callM t lab (true, true) (tmcheck_N h)
  have e3 : tmcheck t ≠ 0 → safeSM lab t = (false, false) := fun h => by simp [safeSM, h]
  generalize tmcheck t = cc at *
  generalize safeSM lab t = m at *
  obtain ⟨p, q⟩ := m
  obtain ⟨k, name, arg, num, tk, tks, uk, uks, label, place, ks⟩ := t
  by_cases h0 : cc = 0
  · have f2 := c2 h0
    clear c2 e3
    subst h0
    refine ACall.body tab_ok (ρ := 0) (N := 13) Try.func20 rfl rfl rfl rfl rfl ?_
    skip
    repeat' first | refine AW.seq ?_ | refine AW.block ?_ | (refine (id : AW _ _ _ (.region 5 _ true) _ _ → _) ?_; refine AW.draw (id := 5) tab_ok mixed [0, 1, 2, 3] (by kernel_rfl) ?_; conv => whnf) | ((first | refine AW.region tab_ok ?_ | refine AW.cond ?_ | refine AW.skip ?_ | refine AW.ret ?_ | refine AW.exit ?_); conv => whnf) | (refine (c1).mono ?_; rintro _ _ ⟨rfl, rfl⟩; conv => whnf) | ((first | refine And.intro (@rfl Val _) ?_ | refine And.intro (by decide) ?_ | refine cs (fun _ => ?_) (fun _ => ?_)) <;> conv => whnf)
    refine f2.mono ?_
    rintro _ _ ⟨rfl, rfl⟩
    conv => whnf
    repeat' first | refine AW.seq ?_ | refine AW.block ?_ | (refine (id : AW _ _ _ (.region 5 _ true) _ _ → _) ?_; refine AW.draw (id := 5) tab_ok mixed [0, 1, 2, 3] (by kernel_rfl) ?_; conv => whnf) | ((first | refine AW.region tab_ok ?_ | refine AW.cond ?_ | refine AW.skip ?_ | refine AW.ret ?_ | refine AW.exit ?_); conv => whnf) | ((first | refine And.intro (@rfl Val _) ?_ | refine And.intro (by decide) ?_ | refine cs (fun _ => ?_) (fun _ => ?_)) <;> conv => whnf)
    exact ⟨rfl, rfl⟩
  · rw [e3 h0]
    clear c2
    refine ACall.body tab_ok (ρ := 0) (N := 13) Try.func20 rfl rfl rfl rfl rfl ?_
    skip
    repeat' first | refine AW.seq ?_ | refine AW.block ?_ | (refine (id : AW _ _ _ (.region 5 _ true) _ _ → _) ?_; refine AW.draw (id := 5) tab_ok mixed [0, 1, 2, 3] (by kernel_rfl) ?_; conv => whnf) | ((first | refine AW.region tab_ok ?_ | refine AW.cond ?_ | refine AW.skip ?_ | refine AW.ret ?_ | refine AW.exit ?_); conv => whnf) | (refine (c1).mono ?_; rintro _ _ ⟨rfl, rfl⟩; conv => whnf) | ((first | refine And.intro (@rfl Val _) ?_ | refine And.intro (by decide) ?_ | refine cs (fun _ => ?_) (fun _ => ?_)) <;> conv => whnf)
    all_goals first | exact ⟨rfl, rfl⟩ | (exfalso; rename_i h; simp at h; exact h0 h)
end Go.Proofs.Ytlboogackecjlaa.E
