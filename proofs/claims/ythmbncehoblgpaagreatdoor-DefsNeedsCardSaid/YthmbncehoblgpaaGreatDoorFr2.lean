/- Free names: terms.Free. No conditions. -/
import Derived.Test.YthmbncehoblgpaaGreatDoorFr1
import Derived.Test.YthmbncehoblgpaaGreatDoorFrS
import Derived.Test.YthmbncehoblgpaaGreatDoorTm14
set_option linter.unusedVariables false
set_option linter.unusedSimpArgs false
namespace Go.Proofs.YthmbncehoblgpaaGreatDoor.E
open Go

theorem encL_nil : encL [] = [] := by unfold encL; rfl
theorem encL_mem {y : Nat × DV × DV} {l : TL} : y ∈ encL l ↔ ∃ x ∈ l, (x.1, DV.str x.2.1, DV.int .i64 x.2.2) = y := by unfold encL; simp
theorem encL_map1 (l : TL) : (encL l).map (·.1) = l.map (·.1) := by unfold encL; simp
/-- A map's entries: born once, ahead of the clock; keys once. -/
structure WfL (m : Nat × TL) : Prop where
  lt : ∀ x ∈ m.2, x.1 < m.1
  born : (m.2.map (·.1)).Nodup
  keys : (m.2.map (·.2.1)).Nodup
theorem tget_some {s : ByteArray} : ∀ {l : TL} {i j : Nat} {v : Int}, tget s l i = some (j, v) → ∃ k, j = i + k ∧ ∃ c, l[k]? = some (c, s, v)
  | (c, k, u) :: l, i, j, v, h => by
    simp only [tget] at h
    split at h
    · rename_i e
      simp only [Option.some.injEq, Prod.mk.injEq] at h
      obtain ⟨rfl, rfl⟩ := h
      exact ⟨0, rfl, c, by simp [e]⟩
    · obtain ⟨n, rfl, c', h'⟩ := tget_some h
      exact ⟨n + 1, by omega, c', by simpa using h'⟩
theorem tget_none {s : ByteArray} : ∀ {l : TL} {i : Nat}, tget s l i = none ↔ s ∉ l.map (·.2.1)
  | [], i => by simp [tget]
  | (c, k, u) :: l, i => by
    simp only [tget, List.map_cons, List.mem_cons, not_or]
    split
    · rename_i e; simp [e]
    · rename_i e
      rw [tget_none (l := l) (i := i + 1)]
      exact ⟨fun h => ⟨e, h⟩, fun h => h.2⟩
theorem tset_born : ∀ (l : TL) (j : Nat) (v : Int), (tset j v l).map (·.1) = l.map (·.1)
  | [], j, v => by simp [tset]
  | (c, k, u) :: l, 0, v => rfl
  | (c, k, u) :: l, j + 1, v => by simp [tset, tset_born l j v]
theorem tset_keys : ∀ (l : TL) (j : Nat) (v : Int), (tset j v l).map (·.2.1) = l.map (·.2.1)
  | [], j, v => by simp [tset]
  | (c, k, u) :: l, 0, v => rfl
  | (c, k, u) :: l, j + 1, v => by simp [tset, tset_keys l j v]
theorem tput_wf {s : ByteArray} {v : Int} {m : Nat × TL} (h : WfL m) : WfL (tput s v m) := by
  unfold tput
  cases hg : tget s m.2 0 with
  | some x =>
    refine ⟨fun x hx => ?_, by simpa [tset_born] using h.born, by simpa [tset_keys] using h.keys⟩
    have : x.1 ∈ (tset _ v m.2).map (·.1) := List.mem_map_of_mem hx
    rw [tset_born] at this
    obtain ⟨y, hy, e⟩ := List.mem_map.1 this
    rw [← e]; exact h.lt y hy
  | none =>
    have hn := tget_none.1 hg
    refine ⟨fun x hx => ?_, ?_, ?_⟩
    · simp only [List.mem_append, List.mem_singleton] at hx
      rcases hx with hx | rfl
      · have := h.lt x hx; simp; omega
      · simp
    · simp only [List.map_append, List.map_cons, List.map_nil]
      refine List.nodup_append.2 ⟨h.born, by simp, fun a ha b hb => ?_⟩
      simp only [List.mem_singleton] at hb
      subst hb
      obtain ⟨y, hy, e⟩ := List.mem_map.1 ha
      have := h.lt y hy
      omega
    · simp only [List.map_append, List.map_cons, List.map_nil]
      refine List.nodup_append.2 ⟨h.keys, by simp, fun a ha b hb => ?_⟩
      simp only [List.mem_singleton] at hb
      subst hb
      exact fun e => hn (e ▸ ha)
theorem tdel_wf {s : ByteArray} {m : Nat × TL} (h : WfL m) : WfL (m.1, tdel s m.2) := by
  unfold tdel
  cases hg : tget s m.2 0 with
  | none => exact h
  | some x =>
    refine ⟨fun x hx => h.lt x (List.mem_of_mem_eraseIdx hx), ?_, ?_⟩
    · rw [ChangeMaps.map_eraseIdx]
      exact h.born.sublist (List.eraseIdx_sublist _ _)
    · rw [ChangeMaps.map_eraseIdx]
      exact h.keys.sublist (List.eraseIdx_sublist _ _)
def WfF (m : FM) : Prop := WfL m.1 ∧ WfL m.2
theorem win_wf : ∀ (w : List ByteArray) {m : FM}, WfF m → WfF (win w m)
  | [], _, h => h
  | [s], _, h => ⟨tput_wf h.1, h.2⟩
  | s :: a :: _, _, h => ⟨tput_wf (tput_wf h.1), h.2⟩
theorem fout_wf {s : ByteArray} {m : FM} (h : WfF m) : WfF (fout s m) := by
  unfold fout
  have h1 : WfL (fdec s m).1 := tput_wf h.1
  split
  · exact ⟨tdel_wf h1, h.2⟩
  · exact ⟨h1, h.2⟩
theorem wout_wf : ∀ (w : List ByteArray) {m : FM}, WfF m → WfF (wout w m)
  | [], _, h => h
  | [s], _, h => fout_wf h
  | s :: a :: _, _, h => ⟨tput_wf (fout_wf h).1, (fout_wf (s := a) h).2⟩
theorem fterm_wf (t : Tm) : ∀ {m : FM}, WfF m → WfF (fterm t m) := by
  induction t using Tm.ind with
  | _ k name arg num tk tks uk uks label place ks ih =>
  intro m h
  simp only [fterm]
  split
  · split
    · exact ⟨h.1, tput_wf h.2⟩
    · exact h
  · have : ∀ (ks : List Tm), (∀ t ∈ ks, ∀ {m : FM}, WfF m → WfF (fterm t m)) → ∀ (w : List (List ByteArray)) {m : FM}, WfF m → WfF (fterms ks w m) := by
      intro ks
      induction ks with
      | nil => intro _ w m h; exact h
      | cons t l il =>
        intro hk w m h
        simp only [fterms]
        exact il (fun t ht => hk t (List.mem_cons_of_mem _ ht)) _ (wout_wf _ (hk t (by simp) (win_wf _ h)))
    exact this ks (fun t ht => ih t ht) _ h

/-- The names that the program tells. -/
def freeR (t : Tm) : List ByteArray := (fterm t ((0, []), (0, []))).2.2.map (·.2.1)
def bytesLe (x y : ByteArray) : Prop := x.data.toList ≤ y.data.toList
theorem bsort_perm (l : List ByteArray) : (bsort l).Perm l := by
  have h := (List.mergeSort_perm (l.map (·.data.toList)) fun x y => decide (x ≤ y)).map fun x : List UInt8 => (⟨x.toArray⟩ : ByteArray)
  rw [List.map_map] at h
  have e : l.map ((fun x : List UInt8 => (⟨x.toArray⟩ : ByteArray)) ∘ fun s : ByteArray => s.data.toList) = l := by
    conv => rhs; rw [← List.map_id l]
    refine List.map_congr_left fun s _ => ?_
    rfl
  rw [e] at h
  exact h
theorem bsort_sorted (l : List ByteArray) : (bsort l).Pairwise bytesLe := by
  have h := List.pairwise_mergeSort (le := fun x y : List UInt8 => decide (x ≤ y)) (fun a b c h1 h2 => by simp at *; exact List.le_trans h1 h2) (fun a b => by simp; exact List.le_total a b) (l.map (·.data.toList))
  unfold bsort
  rw [List.pairwise_map]
  exact h.imp fun h => by simpa [bytesLe] using h
theorem sorted_unique {a b : List ByteArray} (h1 : a.Pairwise bytesLe) (h2 : b.Pairwise bytesLe) (h : a.Perm b) : a = b :=
  List.Perm.eq_of_pairwise (fun x y _ _ h h' => by
    have : x.data.toList = y.data.toList := List.le_antisymm h h'
    cases x; cases y
    simp at this
    simp [this]) h1 h2 h
theorem bsort_of_perm {a b : List ByteArray} (h : a.Perm b) : bsort a = bsort b :=
  sorted_unique (bsort_sorted a) (bsort_sorted b) ((bsort_perm a).trans (h.trans (bsort_perm b).symm))
def freeS (t : Tm) : List ByteArray := if tmcheck t = 0 then bsort (freeR t) else []

theorem nodup_of_map {α β : Type} (f : α → β) : ∀ {l : List α}, (l.map f).Nodup → l.Nodup
  | [], _ => List.nodup_nil
  | a :: l, h => by
    simp only [List.map_cons, List.nodup_cons] at h
    exact List.nodup_cons.2 ⟨fun hm => h.1 (List.mem_map_of_mem hm), nodup_of_map f h.2⟩
theorem inj_of_map {α β : Type} (f : α → β) : ∀ {l : List α}, (l.map f).Nodup → ∀ x ∈ l, ∀ y ∈ l, f x = f y → x = y
  | [], _, x, hx, _, _, _ => by cases hx
  | z :: l, hn, x, hx, y, hy, e => by
    simp only [List.map_cons, List.nodup_cons] at hn
    rcases List.mem_cons.1 hx with h1 | h1 <;> rcases List.mem_cons.1 hy with h2 | h2
    · rw [h1, h2]
    · exact absurd (show f z ∈ l.map f by rw [← h1, e]; exact List.mem_map_of_mem h2) hn.1
    · exact absurd (show f z ∈ l.map f by rw [← h2, ← e]; exact List.mem_map_of_mem h1) hn.1
    · exact inj_of_map f hn.2 x h1 y h2 e
theorem tset_len : ∀ (l : TL) (j : Nat) (v : Int), (tset j v l).length = l.length := fun l j v => by
  have := congrArg List.length (tset_born l j v); simpa using this
theorem tput_len (s : ByteArray) (v : Int) (m : Nat × TL) : (tput s v m).2.length ≤ m.2.length + 1 := by
  unfold tput
  cases tget s m.2 0 with
  | some x => simp [tset_len]
  | none => simp
theorem win_2 : ∀ (w : List ByteArray) (m : FM), (win w m).2 = m.2
  | [], _ => rfl
  | [s], _ => rfl
  | s :: a :: _, _ => rfl
theorem fout_2 (s : ByteArray) (m : FM) : (fout s m).2 = m.2 := by unfold fout; split <;> rfl
theorem wout_2 : ∀ (w : List ByteArray) (m : FM), (wout w m).2 = m.2
  | [], _ => rfl
  | [s], m => fout_2 s m
  | s :: a :: _, m => by show (fout a m).2 = m.2; exact fout_2 a m
theorem fterm_len (t : Tm) : ∀ m : FM, (fterm t m).2.2.length ≤ m.2.2.length + tmN t := by
  induction t using Tm.ind with
  | _ k name arg num tk tks uk uks label place ks ih =>
  intro m
  simp only [fterm, tmN]
  split
  · split
    · have := tput_len name 1 m.2
      simp only at this ⊢
      omega
    · omega
  · have : ∀ (ks : List Tm), (∀ t ∈ ks, ∀ m : FM, (fterm t m).2.2.length ≤ m.2.2.length + tmN t) → ∀ (w : List (List ByteArray)) (m : FM), (fterms ks w m).2.2.length ≤ m.2.2.length + tmNL ks := by
      intro ks
      induction ks with
      | nil => intro _ w m; simp [fterms]
      | cons t l il =>
        intro hk w m
        simp only [fterms, tmNL]
        have h1 := il (fun t ht => hk t (List.mem_cons_of_mem _ ht)) w.tail (wout (w.headD []) (fterm t (win (w.headD []) m)))
        have h2 := hk t (by simp) (win (w.headD []) m)
        rw [wout_2] at h1
        rw [win_2] at h2
        omega
    have := this ks (fun t ht => ih t ht) (wsK k name arg) m
    omega

/-- What a range over a map has met. -/
structure Seen (E : TL) where
  p : List (Nat × ByteArray × Int)
  sub : ∀ x ∈ p, x ∈ E
  nd : (p.map (·.1)).Nodup
set_option maxRecDepth 10000 in
theorem tFree_call (t : Tm) : ACall Tryz.prog 33 [t.val] [] (fun o σ => o = .ret (.c (.d (.sl 0 1 (strs (freeS t))))) ∧ σ = []) := by
  have c1 := tmCheck_call t
  have c2 : tmcheck t = 0 → TermC t := fun h => termF_call t (tmcheck_ok h).2 (tmcheck_ok h).1
  have hb : WfF (fterm t ((0, []), (0, []))) := fterm_wf t ⟨⟨by simp, by simp, by simp⟩, ⟨by simp, by simp, by simp⟩⟩
  have hlen := fterm_len t ((0, []), (0, []))
  have hN : tmcheck t = 0 → tmN t ≤ 8192 := fun h => (tmcheck_ok h).1
  unfold freeS freeR
  unfold TermC at c2
  generalize hF : fterm t = F at *
  generalize tmN t = nn at *
  generalize tmcheck t = cc at *
  obtain ⟨k, name, arg, num, tk, tks, uk, uks, label, place, ks⟩ := t
  refine ACall.body tab_ok (ρ := 0) (N := 31) Tryz.func33 rfl rfl rfl rfl rfl ?_
  repeat' first | refine AW.seq ?_ | refine AW.block ?_ | ((first | refine AW.region tab_ok ?_ | refine AW.cond ?_ | refine AW.skip ?_ | refine AW.ret ?_ | refine AW.exit ?_); conv => whnf) | (refine (c1).mono ?_; rintro _ _ ⟨rfl, rfl⟩; conv => whnf) | ((first | refine And.intro (@rfl Val _) ?_ | refine And.intro (by decide) ?_ | refine cs (fun _ => ?_) (fun _ => ?_)) <;> conv => whnf)
  · rename_i h
    rw [if_neg (by simpa using h)]
    exact ⟨rfl, rfl⟩
  · rename_i h
    rw [if_pos (by simpa using h)]
    have c2 := c2 (by simpa using h) 0 [] 0 []
    have hN := hN (by simpa using h)
    rw [encL_nil] at c2
    generalize F ((0, []), (0, [])) = M at *
    obtain ⟨⟨ck, bl⟩, ⟨cf, fl⟩⟩ := M
    simp only [List.length_nil, Nat.zero_add] at hlen
    unfold fobj at c2
    repeat' first | refine AW.seq ?_ | refine AW.block ?_ | ((first | refine AW.region tab_ok ?_ | refine AW.cond ?_ | refine AW.skip ?_ | refine AW.ret ?_ | refine AW.exit ?_); conv => whnf) | (refine (c2).mono ?_; rintro _ _ ⟨rfl, rfl⟩; conv => whnf) | ((first | refine And.intro (@rfl Val _) ?_ | refine And.intro (by decide) ?_ | refine cs (fun _ => ?_) (fun _ => ?_)) <;> conv => whnf)
    refine AW.ghostE 9 1 4 (by decide) rfl ?_
    refine AW.loop (ι := Seen fl) (fun x => ⟨31, [(19, .c (.ptr 4 0)), (4, .c (.own 5 (strs (x.p.map (·.2.1))).length))],
        [.frz 0 [.int .i8 k, .str name, .str arg, .int .i64 num, .int .i8 tk, .sl 0 2 (Ty.rows tks), .int .i8 uk, .sl 0 2 (Ty.rows uks), .int .i64 label, .int .i64 place, .sl 0 11 (Tm.rows ks)], .mp .str ck (encL bl), .mp .str cf (encL fl), .var [.mp 1, .mp 2], .it (.mp 2) cf (x.p.map (·.1)) cf, .row 9 1 (strs (x.p.map (·.2.1)))], []⟩)
      (fun x => fl.length - x.p.length) ⟨[], by simp, by simp⟩ 6 (fun _ => rfl) (Nat.le_of_ble_eq_true rfl) ⟨⟨rfl, rfl, trivial⟩, rfl, rfl, ⟨[], rfl⟩, rfl⟩ (fun x => ?_)
    obtain ⟨p, hsub, hnd⟩ := x
    have hpl : p.length ≤ fl.length := List.Nodup.length_le_of_subset (nodup_of_map _ hnd) hsub
    repeat' first | refine AW.seq ?_ | refine AW.block ?_ | ((first | refine AW.region tab_ok ?_ | refine AW.cond ?_ | refine AW.skip ?_ | refine AW.ret ?_ | refine AW.exit ?_); conv => whnf) | ((first | refine And.intro (@rfl Val _) ?_ | refine And.intro (by decide) ?_ | refine cs (fun _ => ?_) (fun _ => ?_)) <;> conv => whnf)
    refine ⟨⟨fun y hy => ?_, Nat.le_refl _⟩, fun hall => ?_, fun y hy hns => ?_⟩
    · obtain ⟨x, hx, rfl⟩ := encL_mem.1 hy
      exact hb.2.lt x hx
    · have hperm : (p.map (·.1)).Perm (fl.map (·.1)) := by
        refine (List.perm_ext_iff_of_nodup hnd hb.2.born).2 fun a => ⟨fun h => ?_, fun h => ?_⟩
        · obtain ⟨x, hx, rfl⟩ := List.mem_map.1 h
          exact List.mem_map_of_mem (hsub x hx)
        · obtain ⟨x, hx, rfl⟩ := List.mem_map.1 h
          exact hall _ (encL_mem.2 ⟨x, hx, rfl⟩)
      have hpe : p.Perm fl := by
        refine (List.perm_ext_iff_of_nodup (nodup_of_map _ hnd) (nodup_of_map _ hb.2.born)).2 fun a => ⟨hsub a, fun h => ?_⟩
        have : a.1 ∈ p.map (·.1) := hall _ (encL_mem.2 ⟨a, h, rfl⟩)
        obtain ⟨x, hx, e⟩ := List.mem_map.1 this
        rw [← inj_of_map _ hb.2.born x (hsub x hx) a h e]
        exact hx
      have hs : bsort (p.map (·.2.1)) = bsort (fl.map (·.2.1)) := bsort_of_perm (hpe.map _)
      have hsc := sort_call 9 (p.map (·.2.1)) (by simp; omega)
      rw [← strs_len] at hsc
      conv => whnf
      repeat' first | refine AW.seq ?_ | refine AW.block ?_ | ((first | refine AW.region tab_ok ?_ | refine AW.cond ?_ | refine AW.skip ?_ | refine AW.ret ?_ | refine AW.exit ?_); conv => whnf) | (refine (hsc).mono ?_; rintro _ _ ⟨rfl, rfl⟩; conv => whnf) | ((first | refine And.intro (@rfl Val _) ?_ | refine And.intro (by decide) ?_ | refine cs (fun _ => ?_) (fun _ => ?_)) <;> conv => whnf)
      rw [← hs]
      refine ⟨by simp only [strs_len, bsort_len], ?_⟩
      conv => whnf
      exact ⟨rfl, rfl⟩
    · obtain ⟨x, hx, rfl⟩ := encL_mem.1 hy
      conv => whnf
      repeat' first | refine AW.seq ?_ | refine AW.block ?_ | ((first | refine AW.region tab_ok ?_ | refine AW.cond ?_ | refine AW.skip ?_ | refine AW.ret ?_ | refine AW.exit ?_); conv => whnf) | ((first | refine And.intro (@rfl Val _) ?_ | refine And.intro (by decide) ?_ | refine cs (fun _ => ?_) (fun _ => ?_)) <;> conv => whnf)
      refine ⟨_, p.map (·.1), hy, rfl, rfl, by rw [encL_map1]; exact hb.2.born, ?_⟩
      conv => whnf
      repeat' first | refine AW.seq ?_ | refine AW.block ?_ | ((first | refine AW.region tab_ok ?_ | refine AW.cond ?_ | refine AW.skip ?_ | refine AW.ret ?_ | refine AW.exit ?_); conv => whnf) | ((first | refine And.intro (@rfl Val _) ?_ | refine And.intro (by decide) ?_ | refine cs (fun _ => ?_) (fun _ => ?_)) <;> conv => whnf)
      have hxp : x.1 ∉ p.map (·.1) := hns
      have hpl1 : (p ++ [x]).length ≤ fl.length := List.Nodup.length_le_of_subset (nodup_of_map (·.1) (by
        simp only [List.map_append, List.map_cons, List.map_nil]
        exact List.nodup_append.2 ⟨hnd, by simp, fun a ha b hb e => hxp (by simp at hb; rw [← hb, ← e]; exact ha)⟩)) (fun y hy => by
          rcases List.mem_append.1 hy with h | h
          · exact hsub y h
          · simp at h; rw [h]; exact hx)
      have es : strs (p.map (·.2.1)) ++ [[.str x.2.1]] = strs ((p ++ [x]).map (·.2.1)) := by simp [strs]
      simp only [List.length_append, List.length_cons, List.length_nil] at hpl1
      refine ⟨⟨rfl, ?_, ?_⟩, ?_⟩
      · simp only [strs_len, List.length_map, List.length_cons, List.length_nil]; omega
      · simp only [strs_len, List.length_map, List.length_cons, List.length_nil]; omega
      conv => whnf
      repeat' first | refine AW.seq ?_ | refine AW.block ?_ | ((first | refine AW.region tab_ok ?_ | refine AW.cond ?_ | refine AW.skip ?_ | refine AW.ret ?_ | refine AW.exit ?_); conv => whnf) | ((first | refine And.intro (@rfl Val _) ?_ | refine And.intro (by decide) ?_ | refine cs (fun _ => ?_) (fun _ => ?_)) <;> conv => whnf)
      have el : (strs (p.map (·.2.1))).length + [[DV.str x.2.1]].length = (strs ((p ++ [x]).map (·.2.1))).length := by rw [← es, List.length_append]
      simp only at el es
      rw [el, es]
      refine ⟨⟨p ++ [x], fun y hy => ?_, ?_⟩, ⟨⟨rfl, rfl, trivial⟩, rfl, rfl, ⟨[], ?_⟩, rfl⟩, ?_⟩
      · rcases List.mem_append.1 hy with h | h
        · exact hsub y h
        · simp at h; rw [h]; exact hx
      · simp only [List.map_append, List.map_cons, List.map_nil]
        exact List.nodup_append.2 ⟨hnd, by simp, fun a ha b hb e => hxp (by simp at hb; rw [← hb, ← e]; exact ha)⟩
      · simp only [List.map_append, List.map_cons, List.map_nil]
        rfl
      · show fl.length - (p ++ [x]).length < fl.length - p.length
        simp only [List.length_append, List.length_cons, List.length_nil]
        omega
end Go.Proofs.YthmbncehoblgpaaGreatDoor.E
