/- The engine, part 2: memory: what becomes of the invariant as variables are made, written, frozen, rows appended to. No conditions. -/
import Derived.Test.YtdhkopangbgehaaEng1
set_option linter.unusedVariables false
set_option linter.unusedSimpArgs false
namespace Go.Proofs.Ytdhkopangbgehaa.E
open Go

theorem own_kept {w w' : World} {base : Nat} {e : TypeId} {size n : Nat} {v : Value} {xs : List Value} (h : w.ownsRow base e size v n xs)
    (hb : ∀ b, v.ownBlock = some b → w'.heap[b]? = w.heap[b]?) : w'.ownsRow base e size v n xs := by
  obtain ⟨h1, h2⟩ := h
  refine ⟨h1, ?_⟩
  rcases h2 with h2 | ⟨g, cap, cur, hv, hg, hh, r⟩
  · exact .inl h2
  · exact .inr ⟨g, cap, cur, hv, hg, by rw [hb g (by rw [hv]; rfl)]; exact hh, r⟩

theorem ObjOk.keep {w w' : World} {C C' : Cz} (H : CzLe w C w' C') {e : Ent} {o : AObj} (hb : o.live = true → ∀ b, e.b = some b → w'.heap[b]? = w.heap[b]?)
    (h : ObjOk w C e o) : ObjOk w' C' e o := by
  cases o with
  | var cells =>
    obtain ⟨h1, b, cs, ty, h2, h3, h4⟩ := h
    exact ⟨h1, b, cs, ty, h2, (hb rfl b h2).trans h3, h4.mono H⟩
  | row t sz rows =>
    obtain ⟨h1, h2, h3, h4, h5, xs, h6, h7⟩ := h
    refine ⟨h1, h2, h3, h4, h5, xs, own_kept h6 (fun b hv => hb rfl b (h3.trans hv)), fun j i row x hj hi => ?_⟩
    obtain ⟨v, hv, hr⟩ := h7 j i row x hj hi
    exact ⟨v, hv, hr.mono H.rg⟩
  | frz r cells =>
    obtain ⟨h1, b, cs, ty, fz, h2, h3, h4, h5⟩ := h
    refine ⟨h1, b, cs, ty, fz, h2, (H.rg b r h3).1, (H.rg b r h3).2.trans h4, fun i x hi => ?_⟩
    obtain ⟨v, hv, hr⟩ := h5 i x hi
    exact ⟨v, hv, hr.mono H.rg⟩
  | mp k t es => exact h.elim
  | gone => trivial

theorem live_block {w : World} {C : Cz} {e : Ent} {o : AObj} (h : ObjOk w C e o) (hl : o.live = true) {b : Nat} (hb : e.b = some b) : b < w.heap.size := by
  cases o with
  | var cells =>
    obtain ⟨h1, b', cs, ty, h2, h3, h4⟩ := h
    rw [hb] at h2; cases h2
    exact (Array.getElem?_eq_some_iff.1 h3).1
  | row t sz rows =>
    obtain ⟨h1, h2, h3, h4, h5, xs, h6, h7⟩ := h
    exact (h6.lt b (h3 ▸ hb)).2
  | frz r cells => cases hl
  | mp k t es => exact h.elim
  | gone => cases hl

/-- The heap as it was (a draw). -/
theorem Inv.heap {w w' : World} {C : Cz} {σ : List AObj} (hh : w'.heap = w.heap) (h : Inv w C σ) : Inv w' C σ :=
  ⟨h.len, fun i o e h1 h2 => (h.ok i o e h1 h2).keep ⟨fun b r hr => ⟨hr, by rw [hh]⟩, fun i e he => ⟨e, he, .refl e⟩⟩ (fun _ b _ => by rw [hh]),
   fun i o e b h1 h2 h3 h4 => by rw [hh]; exact h.unrg i o e b h1 h2 h3 h4, h.apart, fun b r hb => by rw [hh]; exact h.rgs b r hb⟩

theorem Ext.heap {w w' : World} {C : Cz} {σ : List AObj} (hh : w'.heap = w.heap) (ho : w'.os = w.os) (ht : w'.tape = w.tape) (hu : w'.output = w.output) : Ext w C σ w' C σ :=
  ⟨ho, ht, hu, by rw [hh]; exact Nat.le_refl _, ⟨fun b r hr => ⟨hr, by rw [hh]⟩, fun i e he => ⟨e, he, .refl e⟩⟩, fun b _ _ => by rw [hh], fun _ h => .inl h, fun _ _ h => .inl h⟩

theorem alloc_old (w : World) (o : Obj) {b : Nat} (h : b < w.heap.size) : (w.alloc o).heap[b]? = w.heap[b]? := by
  show (w.heap.push o)[b]? = _
  rw [Array.getElem?_push, if_neg (by omega)]
theorem alloc_new (w : World) (o : Obj) : (w.alloc o).heap[w.heap.size]? = some o := by
  show (w.heap.push o)[w.heap.size]? = _
  simp

theorem rg_lt {w : World} {C : Cz} {σ : List AObj} (h : Inv w C σ) {b r : Nat} (hb : C.rg b = some r) : b < w.heap.size := h.rgs b r hb

/-- One object more, in a new block. -/
def Cz.add (C : Cz) (e : Ent) : Cz := ⟨C.θ ++ [e], C.rg⟩

theorem get_add {α : Type} (l : List α) (x : α) (i : Nat) (y : α) (h : l[i]? = some y) : (l ++ [x])[i]? = some y := by
  rw [List.getElem?_append_left (List.getElem?_eq_some_iff.1 h).1]; exact h
theorem add_get {α : Type} (l : List α) (x : α) (i : Nat) (y : α) (h : (l ++ [x])[i]? = some y) : (i < l.length ∧ l[i]? = some y) ∨ (i = l.length ∧ y = x) := by
  by_cases hi : i < l.length
  · rw [List.getElem?_append_left hi] at h; exact .inl ⟨hi, h⟩
  · rw [List.getElem?_append_right (by omega)] at h
    have : i - l.length = 0 := by
      rcases Nat.eq_zero_or_pos (i - l.length) with h0 | h0
      · exact h0
      · rw [List.getElem?_eq_none (by simp; omega)] at h; cases h
    rw [this] at h
    simp at h
    exact .inr ⟨by omega, h.symm⟩

theorem CzLe.add {w w' : World} {C : Cz} (e : Ent) (h : ∀ b r, C.rg b = some r → w'.heap[b]? = w.heap[b]?) : CzLe w C w' (C.add e) :=
  ⟨fun b r hb => ⟨hb, h b r hb⟩, fun i x hx => ⟨x, get_add _ _ _ _ hx, .refl x⟩⟩

/-- A new object whose block (if any) is the new one. -/
theorem Inv.addNew {w w' : World} {C : Cz} {σ : List AObj} (h : Inv w C σ) {e : Ent} {o : AObj} (hsz : w.heap.size ≤ w'.heap.size)
    (hold : ∀ b, b < w.heap.size → w'.heap[b]? = w.heap[b]?) (hnew : ∀ b, e.b = some b → w.heap.size ≤ b ∧ b < w'.heap.size) (hok : ObjOk w' (C.add e) e o) :
    Inv w' (C.add e) (σ ++ [o]) := by
  have hle : CzLe w C w' (C.add e) := CzLe.add e (fun b r hb => hold b (h.rgs b r hb))
  refine ⟨by simp [Cz.add, h.len], fun i p f h1 h2 => ?_, fun i p f b h1 h2 h3 h4 => ?_, fun i j p q f g b h1 h2 h3 h4 h5 h6 h7 h8 => ?_, fun b r hb => Nat.lt_of_lt_of_le (h.rgs b r hb) hsz⟩
  · rcases add_get _ _ _ _ h1 with ⟨k1, k2⟩ | ⟨k1, k2⟩ <;> rcases add_get _ _ _ _ h2 with ⟨l1, l2⟩ | ⟨l1, l2⟩
    · exact (h.ok i p f k2 l2).keep hle (fun hl b hb => hold b (live_block (h.ok i p f k2 l2) hl hb))
    · have := h.len; omega
    · have := h.len; omega
    · subst k2; subst l2; exact hok
  · rcases add_get _ _ _ _ h1 with ⟨k1, k2⟩ | ⟨k1, k2⟩ <;> rcases add_get _ _ _ _ h3 with ⟨l1, l2⟩ | ⟨l1, l2⟩
    · have := h.unrg i p f b k2 h2 l2 h4
      exact ⟨this.1, by omega⟩
    · have := h.len; omega
    · have := h.len; omega
    · subst l2
      refine ⟨?_, (hnew b h4).2⟩
      cases hr : C.rg b with
      | none => exact hr
      | some r => have := h.rgs b r hr; have := (hnew b h4).1; omega
  · rcases add_get _ _ _ _ h1 with ⟨k1, k2⟩ | ⟨k1, k2⟩ <;> rcases add_get _ _ _ _ h5 with ⟨l1, l2⟩ | ⟨l1, l2⟩ <;>
      rcases add_get _ _ _ _ h2 with ⟨m1, m2⟩ | ⟨m1, m2⟩ <;> rcases add_get _ _ _ _ h6 with ⟨n1, n2⟩ | ⟨n1, n2⟩ <;>
      first
        | (have := h.len; omega)
        | (exact h.apart i j p q f g b k2 m2 h3 h4 l2 n2 h7 h8)
        | (subst l2; have h9 := live_block (h.ok j q g m2 n2) h4 h8; have h10 := (hnew b h7).1; omega)
        | (subst n2; have h9 := live_block (h.ok i p f k2 l2) h3 h7; have h10 := (hnew b h8).1; omega)

theorem Ext.addNew {w w' : World} {C : Cz} {σ : List AObj} (h : Inv w C σ) {e : Ent} {o : AObj} (hos : w'.os = w.os) (ht : w'.tape = w.tape) (hu : w'.output = w.output) (hsz : w.heap.size ≤ w'.heap.size)
    (hold : ∀ b, b < w.heap.size → w'.heap[b]? = w.heap[b]?) (hnew : ∀ b, e.b = some b → w.heap.size ≤ b) : Ext w C σ w' (C.add e) (σ ++ [o]) := by
  refine ⟨hos, ht, hu, hsz, CzLe.add e (fun b r hb => hold b (h.rgs b r hb)), fun b hb _ => hold b hb, fun b hb => ?_, fun b r hb => .inl hb⟩
  obtain ⟨i, p, f, h1, h2, h3, h4⟩ := hb
  rcases add_get _ _ _ _ h1 with ⟨k1, k2⟩ | ⟨k1, k2⟩ <;> rcases add_get _ _ _ _ h3 with ⟨l1, l2⟩ | ⟨l1, l2⟩
  · exact .inl ⟨i, p, f, k2, h2, l2, h4⟩
  · have := h.len; omega
  · have := h.len; omega
  · subst l2; exact .inr (hnew b h4)

/-- A new variable. -/
theorem step_var {w : World} {C : Cz} {σ : List AObj} (h : Inv w C σ) (arr : Array Value) (ty : TypeId) (cells : List AV) (hc : RepL w C arr.toList cells) :
    ∃ C', Inv (w.alloc (.cells arr ty)) C' (σ ++ [.var cells]) ∧ Ext w C σ (w.alloc (.cells arr ty)) C' (σ ++ [.var cells]) ∧
      RepA (w.alloc (.cells arr ty)) C' (.pointer (some ⟨w.heap.size, 0, none⟩)) (.ptr σ.length 0) := by
  have hsz : w.heap.size ≤ (w.alloc (.cells arr ty)).heap.size := by simp
  have hold : ∀ b, b < w.heap.size → (w.alloc (.cells arr ty)).heap[b]? = w.heap[b]? := fun b hb => alloc_old w _ hb
  have hle : CzLe w C (w.alloc (.cells arr ty)) (C.add ⟨false, some w.heap.size, 0, default⟩) := CzLe.add _ (fun b r hb => hold b (h.rgs b r hb))
  refine ⟨C.add ⟨false, some w.heap.size, 0, default⟩, h.addNew hsz hold (fun b hb => ?_) ⟨rfl, w.heap.size, arr, ty, rfl, alloc_new w _, hc.mono hle⟩, Ext.addNew h rfl rfl rfl hsz hold (fun b hb => ?_), ?_⟩
  · cases hb; simp
  · cases hb; exact Nat.le_refl _
  · exact .ptr _ 0 w.heap.size ⟨false, some w.heap.size, 0, default⟩ (by simp [Cz.add, ← h.len]) rfl rfl

/-- A new block that is read only. -/
def Cz.reg (C : Cz) (b r : Nat) : Cz := ⟨C.θ, fun x => if x = b then some r else C.rg x⟩

theorem Inv.reg {w w' : World} {C : Cz} {σ : List AObj} (h : Inv w C σ) (r : Nat) (hsz : w.heap.size < w'.heap.size) (hold : ∀ b, b < w.heap.size → w'.heap[b]? = w.heap[b]?) :
    CzLe w C w' (C.reg w.heap.size r) ∧ Inv w' (C.reg w.heap.size r) σ := by
  have hle : CzLe w C w' (C.reg w.heap.size r) := ⟨fun b q hb => by
    have := h.rgs b q hb
    exact ⟨by simp only [Cz.reg]; rw [if_neg (by omega)]; exact hb, hold b this⟩, fun i e he => ⟨e, he, .refl e⟩⟩
  refine ⟨hle, h.len, fun i o e h1 h2 => (h.ok i o e h1 h2).keep hle (fun hl b hb => hold b (live_block (h.ok i o e h1 h2) hl hb)), fun i o e b h1 h2 h3 h4 => ?_, h.apart, fun b q hb => ?_⟩
  · have := h.unrg i o e b h1 h2 h3 h4
    exact ⟨by simp only [Cz.reg]; rw [if_neg (by omega)]; exact this.1, by omega⟩
  · simp only [Cz.reg] at hb
    split at hb
    · omega
    · have := h.rgs b q hb; omega

theorem Ext.reg {w w' : World} {C : Cz} {σ : List AObj} (h : Inv w C σ) (r : Nat) (hos : w'.os = w.os) (ht : w'.tape = w.tape) (hu : w'.output = w.output) (hsz : w.heap.size < w'.heap.size)
    (hold : ∀ b, b < w.heap.size → w'.heap[b]? = w.heap[b]?) : Ext w C σ w' (C.reg w.heap.size r) σ := by
  refine ⟨hos, ht, hu, by omega, (h.reg r hsz hold).1, fun b hb _ => hold b hb, fun b hb => .inl hb, fun b q hb => ?_⟩
  simp only [Cz.reg] at hb
  split at hb
  · exact .inr (.inr (by omega))
  · exact .inl hb

/-- What object i has becomes another; the world turns in its block alone. -/
def Cz.upd (C : Cz) (i : Nat) (e : Ent) : Cz := ⟨C.θ.set i e, C.rg⟩

theorem set_get {α : Type} (l : List α) (i j : Nat) (x y : α) (h : (l.set i x)[j]? = some y) : (i = j ∧ y = x) ∨ (i ≠ j ∧ l[j]? = some y) := by
  by_cases e : i = j
  · subst e
    rw [List.getElem?_set] at h
    simp at h
    exact .inl ⟨rfl, h.2.symm⟩
  · rw [List.getElem?_set_ne e] at h; exact .inr ⟨e, h⟩

theorem Inv.upd {w w' : World} {C : Cz} {σ : List AObj} (h : Inv w C σ) {i : Nat} {o o' : AObj} {e e' : Ent} (hi : σ[i]? = some o) (he : C.θ[i]? = some e) (hl : o.live = true)
    (hsz : w.heap.size ≤ w'.heap.size) (hle : EntLe e e')
    (hold : ∀ b, b < w.heap.size → e.b ≠ some b → w'.heap[b]? = w.heap[b]?)
    (hnew : ∀ b, e'.b = some b → e.b = some b ∨ (w.heap.size ≤ b ∧ b < w'.heap.size)) (hok : CzLe w C w' (C.upd i e') → ObjOk w' (C.upd i e') e' o') :
    CzLe w C w' (C.upd i e') ∧ Inv w' (C.upd i e') (σ.set i o') := by
  have hun : ∀ b, e.b = some b → C.rg b = none ∧ b < w.heap.size := fun b hb => h.unrg i o e b hi hl he hb
  have hold2 : ∀ b r, C.rg b = some r → w'.heap[b]? = w.heap[b]? := fun b r hb => hold b (h.rgs b r hb) (fun hc => by rw [(hun b hc).1] at hb; cases hb)
  have hc : CzLe w C w' (C.upd i e') := ⟨fun b r hb => ⟨hb, hold2 b r hb⟩, fun j f hf => by
    by_cases e1 : i = j
    · subst e1
      rw [he] at hf; cases hf
      refine ⟨e', ?_, hle⟩
      simp [Cz.upd, List.getElem?_set, (List.getElem?_eq_some_iff.1 he).1]
    · exact ⟨f, by simp only [Cz.upd]; rw [List.getElem?_set_ne e1]; exact hf, .refl f⟩⟩
  refine ⟨hc, by simp [Cz.upd, h.len], fun j p f h1 h2 => ?_, fun j p f b h1 h2 h3 h4 => ?_, fun j k p q f g b h1 h2 h3 h4 h5 h6 h7 h8 => ?_, fun b r hb => Nat.lt_of_lt_of_le (h.rgs b r hb) hsz⟩
  · rcases set_get _ _ _ _ _ h1 with ⟨k1, k2⟩ | ⟨k1, k2⟩ <;> rcases set_get _ _ _ _ _ h2 with ⟨l1, l2⟩ | ⟨l1, l2⟩
    · subst k2; subst l2; exact hok hc
    · exact absurd k1 l1
    · exact absurd l1 k1
    · refine (h.ok j p f k2 l2).keep hc (fun hpl b hb => hold b (live_block (h.ok j p f k2 l2) hpl hb) (fun hcb => k1 (h.apart i j o p e f b hi k2 hl hpl he l2 hcb hb)))
  · rcases set_get _ _ _ _ _ h1 with ⟨k1, k2⟩ | ⟨k1, k2⟩ <;> rcases set_get _ _ _ _ _ h3 with ⟨l1, l2⟩ | ⟨l1, l2⟩
    · subst l2
      rcases hnew b h4 with h5 | ⟨h5, h6⟩
      · have := hun b h5; exact ⟨this.1, by omega⟩
      · refine ⟨?_, h6⟩
        cases hr : C.rg b with
        | none => exact hr
        | some r => have := h.rgs b r hr; omega
    · exact absurd k1 l1
    · exact absurd l1 k1
    · have := h.unrg j p f b k2 h2 l2 h4
      exact ⟨this.1, by omega⟩
  · rcases set_get _ _ _ _ _ h1 with ⟨k1, k2⟩ | ⟨k1, k2⟩ <;> rcases set_get _ _ _ _ _ h5 with ⟨l1, l2⟩ | ⟨l1, l2⟩ <;>
      rcases set_get _ _ _ _ _ h2 with ⟨m1, m2⟩ | ⟨m1, m2⟩ <;> rcases set_get _ _ _ _ _ h6 with ⟨n1, n2⟩ | ⟨n1, n2⟩ <;>
      first
        | (exact absurd ‹i = j› ‹i ≠ j›)
        | (exact absurd ‹i = k› ‹i ≠ k›)
        | (exact k1.symm.trans m1)
        | (exact h.apart j k p q f g b k2 m2 h3 h4 l2 n2 h7 h8)
        | (subst l2
           rcases hnew b h7 with h9 | ⟨h9, _⟩
           · exact absurd (h.apart i k o q e g b hi m2 hl h4 he n2 h9 h8) m1
           · have h10 := live_block (h.ok k q g m2 n2) h4 h8; omega)
        | (subst n2
           rcases hnew b h8 with h9 | ⟨h9, _⟩
           · exact absurd (h.apart i j o p e f b hi k2 hl h3 he l2 h9 h7) k1
           · have h10 := live_block (h.ok j p f k2 l2) h3 h7; omega)

theorem Ext.upd {w w' : World} {C : Cz} {σ : List AObj} (h : Inv w C σ) {i : Nat} {o o' : AObj} {e e' : Ent} (hi : σ[i]? = some o) (he : C.θ[i]? = some e) (hl : o.live = true)
    (hos : w'.os = w.os) (ht : w'.tape = w.tape) (hu : w'.output = w.output) (hsz : w.heap.size ≤ w'.heap.size) (hc : CzLe w C w' (C.upd i e'))
    (hold : ∀ b, b < w.heap.size → e.b ≠ some b → w'.heap[b]? = w.heap[b]?)
    (hnew : ∀ b, e'.b = some b → e.b = some b ∨ w.heap.size ≤ b) : Ext w C σ w' (C.upd i e') (σ.set i o') := by
  refine ⟨hos, ht, hu, hsz, hc, fun b hb hn => hold b hb (fun hcb => hn ⟨i, o, e, hi, hl, he, hcb⟩), fun b hb => ?_, fun b r hb => .inl hb⟩
  obtain ⟨j, p, f, h1, h2, h3, h4⟩ := hb
  rcases set_get _ _ _ _ _ h1 with ⟨k1, k2⟩ | ⟨k1, k2⟩ <;> rcases set_get _ _ _ _ _ h3 with ⟨l1, l2⟩ | ⟨l1, l2⟩
  · subst l2
    rcases hnew b h4 with h5 | h5
    · exact .inl ⟨i, o, e, hi, hl, he, h5⟩
    · exact .inr h5
  · exact absurd k1 l1
  · exact absurd l1 k1
  · exact .inl ⟨j, p, f, k2, h2, l2, h4⟩

/-- An object of our own is read only from now on. -/
def Cz.frz (C : Cz) (e : Ent) (r : Nat) : Cz := ⟨C.θ, fun x => if e.b = some x then some r else C.rg x⟩

theorem Inv.frz {w : World} {C : Cz} {σ : List AObj} (h : Inv w C σ) {i : Nat} {o o' : AObj} {e : Ent} (hi : σ[i]? = some o) (he : C.θ[i]? = some e) (hl : o.live = true) (r : Nat) (ho' : o'.live = false)
    (hok : CzLe w C w (C.frz e r) → ObjOk w (C.frz e r) e o') : CzLe w C w (C.frz e r) ∧ Inv w (C.frz e r) (σ.set i o') ∧ Ext w C σ w (C.frz e r) (σ.set i o') := by
  have hun : ∀ b, e.b = some b → C.rg b = none ∧ b < w.heap.size := fun b hb => h.unrg i o e b hi hl he hb
  have hc : CzLe w C w (C.frz e r) := ⟨fun b q hb => ⟨by
    simp only [Cz.frz]
    rw [if_neg (fun hx => by rw [(hun b hx).1] at hb; cases hb)]; exact hb, rfl⟩, fun j f hf => ⟨f, hf, .refl f⟩⟩
  refine ⟨hc, ⟨by simp [Cz.frz, h.len], fun j p f h1 h2 => ?_, fun j p f b h1 h2 h3 h4 => ?_, fun j k p q f g b h1 h2 h3 h4 h5 h6 h7 h8 => ?_, fun b q hb => ?_⟩, ⟨rfl, rfl, rfl, Nat.le_refl _, hc, fun _ _ _ => rfl, fun b hb => ?_, fun b q hb => ?_⟩⟩
  · rcases set_get _ _ _ _ _ h1 with ⟨k1, k2⟩ | ⟨k1, k2⟩
    · subst k1; subst k2
      rw [show C.θ[i]? = some f from h2] at he; cases he
      exact hok hc
    · exact (h.ok j p f k2 h2).keep hc (fun _ _ _ => rfl)
  · rcases set_get _ _ _ _ _ h1 with ⟨k1, k2⟩ | ⟨k1, k2⟩
    · subst k2; rw [ho'] at h2; cases h2
    · have := h.unrg j p f b k2 h2 h3 h4
      refine ⟨?_, this.2⟩
      simp only [Cz.frz]
      rw [if_neg (fun hx => k1 (h.apart i j o p e f b hi k2 hl h2 he h3 hx h4))]
      exact this.1
  · rcases set_get _ _ _ _ _ h1 with ⟨k1, k2⟩ | ⟨k1, k2⟩
    · subst k2; rw [ho'] at h3; cases h3
    · rcases set_get _ _ _ _ _ h2 with ⟨l1, l2⟩ | ⟨l1, l2⟩
      · subst l2; rw [ho'] at h4; cases h4
      · exact h.apart j k p q f g b k2 l2 h3 h4 h5 h6 h7 h8
  · simp only [Cz.frz] at hb
    split at hb
    · exact (hun b ‹_›).2
    · exact h.rgs b q hb
  · obtain ⟨j, p, f, h1, h2, h3, h4⟩ := hb
    rcases set_get _ _ _ _ _ h1 with ⟨k1, k2⟩ | ⟨k1, k2⟩
    · subst k2; rw [ho'] at h2; cases h2
    · exact .inl ⟨j, p, f, k2, h2, h3, h4⟩
  · simp only [Cz.frz] at hb
    split at hb
    · exact .inr (.inl ⟨i, o, e, hi, hl, he, ‹_›⟩)
    · exact .inl hb

end Go.Proofs.Ytdhkopangbgehaa.E
