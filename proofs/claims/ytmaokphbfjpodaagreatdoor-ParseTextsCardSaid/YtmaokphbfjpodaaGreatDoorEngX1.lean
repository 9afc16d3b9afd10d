/- The engine's texts, merged (1 of 3): data for values, objects, contracts of calls, rules for the code. No conditions. -/
import Derived.Calls
import Derived.Control
import Derived.Defers
import Derived.Recover
import Derived.Below
import Derived.Tactics
import Derived.Laws.AppendOwn
import Derived.Laws.MakeOwn
import Derived.Laws.IdiomCopy
import Derived.Deep.MidRow
import Derived.KernelRfl
import Derived.Great.BuildSlice
import Derived.Lib.Strings
/- The engine, part 1: data, references, states; how they stand for values of the machine. No conditions. -/
set_option linter.unusedVariables false
set_option linter.unusedSimpArgs false
namespace Go.Proofs.YtmaokphbfjpodaaGreatDoor.E
open Go

/-! ### Data -/
/-- Pure data. 'sl r sz rows': a slice that is read (region r, sz cells an element); 'rp r cells': an address of a place that is read. -/
inductive DV where
  | int (k : IntKind) (n : Int)
  | bool (b : Bool)
  | str (s : ByteArray)
  | sl (r sz : Nat) (rows : List (List DV))
  | nils
  | rp (r : Nat) (cells : List DV)
  | nilp
  | nilf
  | nilm
  | nili
  | ifc (t : TypeId) (x : DV)
  | ifa (t : TypeId) (cells : List DV)
  | fnd (f : FuncId) (first cap : List DV)
  | wsl (k : Bool) (rows : List (List DV))
  | wrp (k : Bool) (cells : List DV)

/-! ### Places that are written over -/
/-- A block that may be written over: its tag is 7 (elements of two cells) or 8 (of eleven). -/
def isW (r : Nat) : Bool := r == 7 || r == 8
/-- What may be told read only under a tag: under 1 elements of two cells alone, under 4 of eleven. -/
def rOk (ρ sz : Nat) : Bool := bif isW ρ then false else bif ρ == 1 then sz == 2 else bif ρ == 4 then sz == 11 else true
theorem rOk_w {ρ sz : Nat} (h : rOk ρ sz = true) : isW ρ = false := by
  unfold rOk at h
  cases hw : isW ρ with
  | false => rfl
  | true => rw [hw] at h; cases h
theorem rOk_sz {ρ sz : Nat} (h : rOk ρ sz = true) (hr : ρ = 1 ∨ ρ = 4) : sz = if ρ = 1 then 2 else 11 := by
  unfold rOk at h
  rcases hr with rfl | rfl
  · simpa [isW] using h
  · simpa [isW] using h
def wtag (k : Bool) : Nat := if k then 8 else 7
def wsz (k : Bool) : Nat := if k then 11 else 2
/-- What is written over an element. -/
def spoilV (k : Bool) : List Value := if k then [.int .i8 77, .string ⟨#[]⟩, .string ⟨#[]⟩, .int .i64 0, .int .i8 0, .slice none 0 0, .int .i8 0, .slice none 0 0, .int .i64 0, .int .i64 0, .slice none 0 0] else [.int .i8 77, .slice none 0 0]
/-- Some of a block's elements have been written over. -/
def SpStep (k : Bool) (o o' : Option Obj) : Prop := ∃ cs cs' e, o = some (.cells cs e (0, 0)) ∧ o' = some (.cells cs' e (0, 0)) ∧
  ∀ j, (∀ i, i < wsz k → cs'[j * wsz k + i]? = cs[j * wsz k + i]?) ∨ (∀ (i : Nat) v, (spoilV k)[i]? = some v → cs'[j * wsz k + i]? = some v)
/-- What becomes of a block of a tag. -/
def Kp (r : Nat) (o o' : Option Obj) : Prop := o' = o ∨ (r = 7 ∧ SpStep false o o') ∨ (r = 8 ∧ SpStep true o o')
theorem Kp.eq {r : Nat} {o o' : Option Obj} (h : Kp r o o') (hr : isW r = false) : o' = o := by
  rcases h with h | ⟨rfl, _⟩ | ⟨rfl, _⟩
  · exact h
  · cases hr
  · cases hr
theorem SpStep.trans {k : Bool} {a b c : Option Obj} (h : SpStep k a b) (g : SpStep k b c) : SpStep k a c := by
  obtain ⟨c1, c2, e, rfl, rfl, h3⟩ := h
  obtain ⟨c2', c3, e', g1, rfl, g3⟩ := g
  cases g1
  refine ⟨c1, c3, e, rfl, rfl, fun j => ?_⟩
  rcases g3 j with g | g
  · rcases h3 j with h | h
    · exact .inl fun i hi => (g i hi).trans (h i hi)
    · refine .inr fun i v hv => ?_
      have hi : i < wsz k := by
        have := (List.getElem?_eq_some_iff.1 hv).1
        cases k <;> simpa [spoilV, wsz] using this
      rw [g i hi]; exact h i v hv
  · exact .inr g
theorem Kp.trans {r : Nat} {a b c : Option Obj} (h : Kp r a b) (g : Kp r b c) : Kp r a c := by
  rcases h with rfl | ⟨h1, h2⟩ | ⟨h1, h2⟩
  · exact g
  · rcases g with rfl | ⟨_, g2⟩ | ⟨g1, _⟩
    · exact .inr (.inl ⟨h1, h2⟩)
    · exact .inr (.inl ⟨h1, h2.trans g2⟩)
    · omega
  · rcases g with rfl | ⟨g1, _⟩ | ⟨_, g2⟩
    · exact .inr (.inr ⟨h1, h2⟩)
    · omega
    · exact .inr (.inr ⟨h1, h2.trans g2⟩)
theorem Kp.k {k : Bool} {a b : Option Obj} (h : Kp (wtag k) a b) : b = a ∨ SpStep k a b := by
  cases k
  · rcases h with h | ⟨_, h⟩ | ⟨h, _⟩
    · exact .inl h
    · exact .inr h
    · cases h
  · rcases h with h | ⟨h, _⟩ | ⟨_, h⟩
    · exact .inl h
    · cases h
    · exact .inr h
/-- A place that is read, of region r (9: any). -/
def TagOk (rg : Nat → Option Nat) (b r : Nat) : Prop := ∃ q, rg b = some q ∧ isW q = false ∧ (r = q ∨ r = 9)

/-- A cell: data, or a reference to an object of our own. -/
inductive AV where
  | d (x : DV)
  | ptr (o off : Nat)
  | own (o n : Nat)
  | rowp (o n j sz off : Nat)
  | emp
  | full (r sz : Nat) (rows : List (List DV))
  | mp (o : Nat)
  | fn (f : FuncId) (first cap : List AV)
  | ifc (t : TypeId) (x : AV)
  | ifa (t : TypeId) (cells : List AV)

/-- What a slot holds. -/
inductive Val where
  | c (a : AV)
  | agg (cells : List AV)
  | tup (vs : List Val)
  | junk

/-- The kinds of keys. -/
inductive KK where
  | int (k : IntKind) | str | bool
def keyOk : KK → DV → Bool
  | .int k, .int k' _ => k' == k
  | .str, .str _ => true
  | .bool, .bool _ => true
  | _, _ => false

/-- An object of our own. -/
inductive AObj where
  | var (cells : List AV)
  | row (e : TypeId) (sz : Nat) (rows : List (List DV))
  | frz (r : Nat) (cells : List DV)
  | mp (kk : KK) (clock : Nat) (es : List (Nat × DV × DV))
  | it (m : AV) (since : Nat) (seen : List Nat) (c0 : Nat)
  | gone

/-- Where an object lies. A row: its slice value, its length. -/
structure Ent where
  row : Bool
  b : Option Nat
  len : Nat
  val : Value

structure Cz where
  θ : List Ent
  rg : Nat → Option Nat

/-! ### How data stand for values -/
inductive RepD (w : World) (rg : Nat → Option Nat) : Value → DV → Prop
  | int (k : IntKind) (n : Int) : RepD w rg (.int k n) (.int k n)
  | bool (b : Bool) : RepD w rg (.bool b) (.bool b)
  | str (s : ByteArray) : RepD w rg (.string s) (.str s)
  | sl0 (A : Option Addr) (r sz c : Nat) : RepD w rg (.slice A 0 c) (.sl r sz [])
  | sl (r sz b o n c : Nat) (rows : List (List DV)) (cs : Array Value) (e : TypeId) (fz : Nat × Nat) (vs : Nat → Nat → Value)
      (hr : TagOk rg b r ∧ (r = 1 ∨ r = 4 → o = 0 ∧ fz = (0, 0) ∧ sz = if r = 1 then 2 else 11)) (hh : w.heap[b]? = some (.cells cs e fz)) (hn : n = rows.length) (hc : n ≤ c)
      (hsz : ∀ row, row ∈ rows → row.length = sz)
      (hcell : ∀ (j i : Nat), j < n → i < sz → cs[o + j * sz + i]? = some (vs j i))
      (hrep : ∀ (j i : Nat) row x, rows[j]? = some row → row[i]? = some x → RepD w rg (vs j i) x) :
      RepD w rg (.slice (some ⟨b, o, none⟩) n c) (.sl r sz rows)
  | nils : RepD w rg (.slice none 0 0) .nils
  | rp (r b o : Nat) (cells : List DV) (cs : Array Value) (e : TypeId) (fz : Nat × Nat) (vs : Nat → Value)
      (hr : TagOk rg b r) (hh : w.heap[b]? = some (.cells cs e fz))
      (hcell : ∀ (i : Nat), i < cells.length → cs[o + i]? = some (vs i))
      (hrep : ∀ (i : Nat) x, cells[i]? = some x → RepD w rg (vs i) x) :
      RepD w rg (.pointer (some ⟨b, o, none⟩)) (.rp r cells)
  | nilp : RepD w rg (.pointer none) .nilp
  | nilf : RepD w rg .nilFunc .nilf
  | nilm : RepD w rg (.map none) .nilm
  | nili : RepD w rg .nilIface .nili
  | ifc (t : TypeId) (v : Value) (x : DV) (h : RepD w rg v x) : RepD w rg (.iface t v) (.ifc t x)
  | ifa (t : TypeId) (arr : Array Value) (cells : List DV) (vs : Nat → Value) (hs : arr.size = cells.length)
      (hcell : ∀ (i : Nat), i < cells.length → arr[i]? = some (vs i))
      (hrep : ∀ (i : Nat) x, cells[i]? = some x → RepD w rg (vs i) x) : RepD w rg (.iface t (.agg arr)) (.ifa t cells)
  | fnd (f : FuncId) (fs cs : Array Value) (first cap : List DV) (vf vc : Nat → Value) (h1 : fs.size = first.length) (h2 : cs.size = cap.length)
      (g1 : ∀ (i : Nat), i < first.length → fs[i]? = some (vf i)) (g2 : ∀ (i : Nat), i < cap.length → cs[i]? = some (vc i))
      (r1 : ∀ (i : Nat) x, first[i]? = some x → RepD w rg (vf i) x) (r2 : ∀ (i : Nat) x, cap[i]? = some x → RepD w rg (vc i) x) : RepD w rg (.func (.func f) fs cs) (.fnd f first cap)
  | wsl0 (A : Option Addr) (k : Bool) (c : Nat) : RepD w rg (.slice A 0 c) (.wsl k [])
  | wsl (k : Bool) (b n c : Nat) (rows : List (List DV)) (cs : Array Value) (e : TypeId) (told : Nat → Bool) (vs : Nat → Nat → Value)
      (hr : rg b = some (wtag k)) (hh : w.heap[b]? = some (.cells cs e (0, 0))) (hn : n = rows.length) (hc : n ≤ c)
      (hsz : ∀ row, row ∈ rows → row.length = wsz k)
      (hcell : ∀ (j i : Nat), j < n → i < wsz k → cs[j * wsz k + i]? = some (vs j i))
      (hsp : ∀ (j i : Nat) v, told j = false → (spoilV k)[i]? = some v → vs j i = v)
      (hrep : ∀ (j i : Nat) row x, told j = true → rows[j]? = some row → row[i]? = some x → RepD w rg (vs j i) x) :
      RepD w rg (.slice (some ⟨b, 0, none⟩) n c) (.wsl k rows)
  | wrp (k : Bool) (b j : Nat) (cells : List DV) (cs : Array Value) (e : TypeId) (told : Bool) (vs : Nat → Value)
      (hr : rg b = some (wtag k)) (hh : w.heap[b]? = some (.cells cs e (0, 0))) (hl : cells.length = wsz k)
      (hcell : ∀ (i : Nat), i < wsz k → cs[j * wsz k + i]? = some (vs i))
      (hsp : ∀ (i : Nat) v, told = false → (spoilV k)[i]? = some v → vs i = v)
      (hrep : ∀ (i : Nat) x, told = true → cells[i]? = some x → RepD w rg (vs i) x) :
      RepD w rg (.pointer (some ⟨b, j * wsz k, none⟩)) (.wrp k cells)

theorem TagOk.mono {w w' : World} {rg rg' : Nat → Option Nat} (H : ∀ b r, rg b = some r → rg' b = some r ∧ Kp r (w.heap[b]?) (w'.heap[b]?)) {b r : Nat} (h : TagOk rg b r) : TagOk rg' b r ∧ w'.heap[b]? = w.heap[b]? := by
  obtain ⟨q, h1, h2, h3⟩ := h
  exact ⟨⟨q, (H b q h1).1, h2, h3⟩, (H b q h1).2.eq h2⟩
theorem spoil_lt {k : Bool} {i : Nat} {v : Value} (h : (spoilV k)[i]? = some v) : i < wsz k := by
  have := (List.getElem?_eq_some_iff.1 h).1
  cases k <;> simpa [spoilV, wsz] using this
theorem spoil_get {k : Bool} {i : Nat} (h : i < wsz k) : ∃ v, (spoilV k)[i]? = some v :=
  ⟨_, List.getElem?_eq_getElem (by cases k <;> simpa [spoilV, wsz] using h)⟩
theorem RepD.mono {w w' : World} {rg rg' : Nat → Option Nat} (H : ∀ b r, rg b = some r → rg' b = some r ∧ Kp r (w.heap[b]?) (w'.heap[b]?)) {v : Value} {x : DV}
    (h : RepD w rg v x) : RepD w' rg' v x := by
  induction h with
  | int k n => exact .int k n
  | bool b => exact .bool b
  | str s => exact .str s
  | sl0 A r sz c => exact .sl0 A r sz c
  | sl r sz b o n c rows cs e fz vs hr hh hn hc hsz hcell hrep ih => exact .sl r sz b o n c rows cs e fz vs ⟨(hr.1.mono H).1, hr.2⟩ ((hr.1.mono H).2.trans hh) hn hc hsz hcell ih
  | nils => exact .nils
  | rp r b o cells cs e fz vs hr hh hcell hrep ih => exact .rp r b o cells cs e fz vs (hr.mono H).1 ((hr.mono H).2.trans hh) hcell ih
  | nilp => exact .nilp
  | nilf => exact .nilf
  | nilm => exact .nilm
  | nili => exact .nili
  | ifc t v x h ih => exact .ifc t v x ih
  | ifa t arr cells vs hs hcell hrep ih => exact .ifa t arr cells vs hs hcell ih
  | fnd f fs cs first cap vf vc h1 h2 g1 g2 r1 r2 i1 i2 => exact .fnd f fs cs first cap vf vc h1 h2 g1 g2 i1 i2
  | wsl0 A k c => exact .wsl0 A k c
  | wsl k b n c rows cs e told vs hr hh hn hc hsz hcell hsp hrep ih =>
    obtain ⟨q1, q2⟩ := H b _ hr
    rcases q2.k with q2 | ⟨c1, c2, e', g1, g2, g3⟩
    · exact .wsl k b n c rows cs e told vs q1 (q2.trans hh) hn hc hsz hcell hsp ih
    · rw [hh] at g1
      cases g1
      classical
      have hsel : ∀ j, ∃ t : Bool, ∃ vv : Nat → Value, (j < n → ∀ i, i < wsz k → c2[j * wsz k + i]? = some (vv i)) ∧ (t = false → ∀ (i : Nat) v, (spoilV k)[i]? = some v → vv i = v) ∧
          (t = true → told j = true ∧ ∀ i, vv i = vs j i) := fun j => by
        rcases g3 j with g | g
        · refine ⟨told j, fun i => vs j i, fun hj i hi => by rw [g i hi]; exact hcell j i hj hi, fun ht i v hv => hsp j i v ht hv, fun ht => ⟨ht, fun i => rfl⟩⟩
        · refine ⟨false, fun i => ((spoilV k)[i]?).getD (vs j i), fun hj i hi => ?_, fun _ i v hv => by simp [hv], fun ht => by cases ht⟩
          obtain ⟨v, hv⟩ := spoil_get (k := k) hi
          rw [g i v hv]; simp [hv]
      have P := fun j => Classical.choose_spec (Classical.choose_spec (hsel j))
      exact .wsl k b n c rows c2 e (fun j => Classical.choose (hsel j)) (fun j => Classical.choose (Classical.choose_spec (hsel j))) q1 g2 hn hc hsz (fun j i hj hi => (P j).1 hj i hi) (fun j i v ht hv => (P j).2.1 ht i v hv)
        (fun j i row x ht hrow hx => by rw [((P j).2.2 ht).2 i]; exact ih j i row x ((P j).2.2 ht).1 hrow hx)
  | wrp k b j cells cs e told vs hr hh hl hcell hsp hrep ih =>
    obtain ⟨q1, q2⟩ := H b _ hr
    rcases q2.k with q2 | ⟨c1, c2, e', g1, g2, g3⟩
    · exact .wrp k b j cells cs e told vs q1 (q2.trans hh) hl hcell hsp ih
    · rw [hh] at g1
      cases g1
      rcases g3 j with g | g
      · exact .wrp k b j cells c2 e told vs q1 g2 hl (fun i hi => by rw [g i hi]; exact hcell i hi) hsp ih
      · refine .wrp k b j cells c2 e false (fun i => ((spoilV k)[i]?).getD (vs i)) q1 g2 hl (fun i hi => ?_) (fun i v _ hv => by simp [hv]) (fun i x ht => by cases ht)
        obtain ⟨v, hv⟩ := spoil_get (k := k) hi
        rw [g i v hv]; simp [hv]

theorem RepD.oneCell {w : World} {rg : Nat → Option Nat} {v : Value} {x : DV} (h : RepD w rg v x) : v.oneCell' = true := by cases h <;> rfl

inductive RepA (w : World) (C : Cz) : Value → AV → Prop
  | d (v : Value) (x : DV) (h : RepD w C.rg v x) : RepA w C v (.d x)
  | ptr (o off b : Nat) (e : Ent) (he : C.θ[o]? = some e) (hr : e.row = false) (hb : e.b = some b) : RepA w C (.pointer (some ⟨b, off, none⟩)) (.ptr o off)
  | own (o n : Nat) (e : Ent) (he : C.θ[o]? = some e) (hr : e.row = true) (hn : n ≤ e.len) (A : Option Addr) (c : Nat) (hv : n = e.len → .slice A n c = e.val) :
      RepA w C (.slice A n c) (.own o n)
  | rowp (o n j sz off : Nat) (e : Ent) (he : C.θ[o]? = some e) (hr : e.row = true) (hn : n ≤ e.len) (b : Nat) (hv : n = e.len → e.b = some b) :
      RepA w C (.pointer (some ⟨b, j * sz + off, none⟩)) (.rowp o n j sz off)
  | emp (A : Option Addr) : RepA w C (.slice A 0 0) .emp
  | full (A : Option Addr) (n r sz : Nat) (rows : List (List DV)) (hn : rows.length = n) (h : RepD w C.rg (.slice A n n) (.sl r sz rows)) : RepA w C (.slice A n n) (.full r sz rows)
  | mp (o b : Nat) (e : Ent) (he : C.θ[o]? = some e) (hr : e.row = false) (hb : e.b = some b) : RepA w C (.map (some b)) (.mp o)
  | fn (f : FuncId) (fs cs : Array Value) (first cap : List AV) (vf vc : Nat → Value) (h1 : fs.size = first.length) (h2 : cs.size = cap.length)
      (g1 : ∀ (i : Nat), i < first.length → fs[i]? = some (vf i)) (g2 : ∀ (i : Nat), i < cap.length → cs[i]? = some (vc i))
      (r1 : ∀ (i : Nat) x, first[i]? = some x → RepA w C (vf i) x) (r2 : ∀ (i : Nat) x, cap[i]? = some x → RepA w C (vc i) x) : RepA w C (.func (.func f) fs cs) (.fn f first cap)
  | ifc (t : TypeId) (v : Value) (x : AV) (h : RepA w C v x) : RepA w C (.iface t v) (.ifc t x)
  | ifa (t : TypeId) (arr : Array Value) (cells : List AV) (vs : Nat → Value) (hs : arr.size = cells.length)
      (hcell : ∀ (i : Nat), i < cells.length → arr[i]? = some (vs i))
      (hrep : ∀ (i : Nat) x, cells[i]? = some x → RepA w C (vs i) x) : RepA w C (.iface t (.agg arr)) (.ifa t cells)

def EntLe (e e' : Ent) : Prop := e' = e ∨ (e.row = true ∧ e'.row = true ∧ e.len < e'.len)
theorem EntLe.refl (e : Ent) : EntLe e e := .inl rfl
theorem EntLe.trans {a b c : Ent} (h : EntLe a b) (k : EntLe b c) : EntLe a c := by
  rcases h with rfl | ⟨h1, h2, h3⟩
  · exact k
  · rcases k with rfl | ⟨k1, k2, k3⟩
    · exact .inr ⟨h1, h2, h3⟩
    · exact .inr ⟨h1, k2, by omega⟩

/-- C' tells at least what C told. -/
structure CzLe (w : World) (C : Cz) (w' : World) (C' : Cz) : Prop where
  rg : ∀ b r, C.rg b = some r → C'.rg b = some r ∧ Kp r (w.heap[b]?) (w'.heap[b]?)
  θ : ∀ (i : Nat) e, C.θ[i]? = some e → ∃ e', C'.θ[i]? = some e' ∧ EntLe e e'

theorem CzLe.refl (w : World) (C : Cz) : CzLe w C w C := ⟨fun _ _ h => ⟨h, .inl rfl⟩, fun _ e h => ⟨e, h, .refl e⟩⟩
theorem CzLe.trans {w1 w2 w3 : World} {C1 C2 C3 : Cz} (h : CzLe w1 C1 w2 C2) (k : CzLe w2 C2 w3 C3) : CzLe w1 C1 w3 C3 :=
  ⟨fun b r hb => by
    obtain ⟨h1, h2⟩ := h.rg b r hb
    obtain ⟨k1, k2⟩ := k.rg b r h1
    exact ⟨k1, h2.trans k2⟩,
   fun i e he => by
    obtain ⟨e1, h1, h2⟩ := h.θ i e he
    obtain ⟨e2, k1, k2⟩ := k.θ i e1 h1
    exact ⟨e2, k1, h2.trans k2⟩⟩

theorem RepA.mono {w w' : World} {C C' : Cz} (H : CzLe w C w' C') {v : Value} {a : AV} (h : RepA w C v a) : RepA w' C' v a := by
  induction h with
  | d v x h => exact .d v x (h.mono H.rg)
  | ptr o off b e he hr hb =>
    obtain ⟨e', h1, h2⟩ := H.θ o e he
    rcases h2 with rfl | ⟨h2, _⟩
    · exact .ptr o off b e' h1 hr hb
    · rw [hr] at h2; cases h2
  | own o n e he hr hn A c hv =>
    obtain ⟨e', h1, h2⟩ := H.θ o e he
    rcases h2 with rfl | ⟨h2, h3, h4⟩
    · exact .own o n e' h1 hr hn A c hv
    · exact .own o n e' h1 h3 (by omega) A c (fun h => by omega)
  | rowp o n j sz off e he hr hn b hv =>
    obtain ⟨e', h1, h2⟩ := H.θ o e he
    rcases h2 with rfl | ⟨h2, h3, h4⟩
    · exact .rowp o n j sz off e' h1 hr hn b hv
    · exact .rowp o n j sz off e' h1 h3 (by omega) b (fun h => by omega)
  | emp A => exact .emp A
  | full A n r sz rows hn h => exact .full A n r sz rows hn (h.mono H.rg)
  | mp o b e he hr hb =>
    obtain ⟨e', h1, h2⟩ := H.θ o e he
    rcases h2 with rfl | ⟨h2, _⟩
    · exact .mp o b e' h1 hr hb
    · rw [hr] at h2; cases h2
  | fn f fs cs first cap vf vc h1 h2 g1 g2 r1 r2 i1 i2 => exact .fn f fs cs first cap vf vc h1 h2 g1 g2 i1 i2
  | ifc t v x h ih => exact .ifc t v x ih
  | ifa t arr cells vs hs hcell hrep ih => exact .ifa t arr cells vs hs hcell ih

theorem RepA.oneCell {w : World} {C : Cz} {v : Value} {a : AV} (h : RepA w C v a) : v.oneCell' = true := by
  cases h with
  | d _ _ h => exact h.oneCell
  | _ => rfl

/-- A row of cells. -/
def RepL (w : World) (C : Cz) (vs : List Value) (as : List AV) : Prop :=
  vs.length = as.length ∧ ∀ (i : Nat) v a, vs[i]? = some v → as[i]? = some a → RepA w C v a

theorem RepL.mono {w w' : World} {C C' : Cz} (H : CzLe w C w' C') {vs : List Value} {as : List AV} (h : RepL w C vs as) : RepL w' C' vs as :=
  ⟨h.1, fun i v a h1 h2 => (h.2 i v a h1 h2).mono H⟩

inductive RepV (w : World) (C : Cz) : Value → Val → Prop
  | c (v : Value) (a : AV) (h : RepA w C v a) : RepV w C v (.c a)
  | agg (arr : Array Value) (cells : List AV) (h : RepL w C arr.toList cells) : RepV w C (.agg arr) (.agg cells)
  | tup (arr : Array Value) (vs : List Val) (hs : arr.size = vs.length) (h : ∀ (i : Nat) v x, arr[i]? = some v → vs[i]? = some x → RepV w C v x) : RepV w C (.tuple arr) (.tup vs)
  | junk (v : Value) : RepV w C v .junk

theorem RepV.mono {w w' : World} {C C' : Cz} (H : CzLe w C w' C') {v : Value} {x : Val} (h : RepV w C v x) : RepV w' C' v x := by
  induction h with
  | c v a h => exact .c v a (h.mono H)
  | agg arr cells h => exact .agg arr cells (h.mono H)
  | tup arr vs hs h ih => exact .tup arr vs hs ih
  | junk v => exact .junk v

/-! ### Objects, states -/
def AObj.live : AObj → Bool
  | .var _ | .row _ _ _ | .mp _ _ _ | .it _ _ _ _ => true
  | _ => false

/-- An iterator: over a map, over a string (then 'since' is the place). -/
def ItOk (w : World) (C : Cz) (b : Nat) (m : AV) (since : Nat) (seen : List Nat) (c0 : Nat) : Prop :=
  (∃ u bm, RepA w C u m ∧ u = .map (some bm) ∧ w.heap[b]? = some (.mapIter (some bm) since seen.toArray c0)) ∨ ∃ s, m = .d (.str s) ∧ w.heap[b]? = some (.stringIter s since)
def ObjOk (w : World) (C : Cz) (e : Ent) : AObj → Prop
  | .var cells => e.row = false ∧ ∃ b cs ty, e.b = some b ∧ w.heap[b]? = some (.cells cs ty (0, 0)) ∧ RepL w C cs.toList cells
  | .row t sz rows => e.row = true ∧ e.len = rows.length ∧ e.b = e.val.ownBlock ∧ 0 < sz ∧ (∀ row, row ∈ rows → row.length = sz) ∧
      ∃ xs, w.ownsRow 0 t sz e.val rows.length xs ∧ ∀ (j i : Nat) row x, rows[j]? = some row → row[i]? = some x → ∃ v, xs[j * sz + i]? = some v ∧ RepD w C.rg v x
  | .frz r cells => e.row = false ∧ ∃ b cs ty fz, e.b = some b ∧ (C.rg b = some r ∧ isW r = false) ∧ w.heap[b]? = some (.cells cs ty fz) ∧
      ∀ (i : Nat) x, cells[i]? = some x → ∃ v, cs[i]? = some v ∧ RepD w C.rg v x
  | .mp kk clock es => e.row = false ∧ ∃ b arr, e.b = some b ∧ w.heap[b]? = some (.map arr clock) ∧ arr.size = es.length ∧
      ∀ (i : Nat) me x, arr[i]? = some me → es[i]? = some x → me.born = x.1 ∧ RepD w C.rg me.key x.2.1 ∧ RepD w C.rg me.val x.2.2 ∧ keyOk kk x.2.1 = true
  | .it m since seen c0 => e.row = false ∧ ∃ b, e.b = some b ∧ ItOk w C b m since seen c0
  | .gone => True

/-- The package-level variables that are laid: where they lie, what they hold. -/
noncomputable def globs : List (Nat × Array Value) := [(0, #[.iface 152 (.agg #[.pointer (some ⟨5, 31, none⟩)])])]
def GlobOk (w : World) (C : Cz) : Prop := ∀ b cs, (b, cs) ∈ globs → C.rg b = some 0 ∧ ∃ t fz, w.heap[b]? = some (.cells cs t fz)
theorem GlobOk.mono {w w' : World} {C C' : Cz} (h : GlobOk w C) (H : ∀ b, C.rg b = some 0 → C'.rg b = some 0 ∧ w'.heap[b]? = w.heap[b]?) : GlobOk w' C' := fun b cs ha => by
  obtain ⟨h1, t, fz, h2⟩ := h b cs ha
  obtain ⟨h3, h4⟩ := H b h1
  exact ⟨h3, t, fz, h4.trans h2⟩
theorem GlobOk.le {w w' : World} {C C' : Cz} (h : GlobOk w C) (H : CzLe w C w' C') : GlobOk w' C' := h.mono fun b hb => ⟨(H.rg b 0 hb).1, (H.rg b 0 hb).2.eq rfl⟩
structure Inv (w : World) (C : Cz) (σ : List AObj) : Prop where
  len : C.θ.length = σ.length
  ok : ∀ (i : Nat) o e, σ[i]? = some o → C.θ[i]? = some e → ObjOk w C e o
  unrg : ∀ (i : Nat) o e b, σ[i]? = some o → o.live = true → C.θ[i]? = some e → e.b = some b → C.rg b = none ∧ b < w.heap.size
  apart : ∀ (i j : Nat) o p e f b, σ[i]? = some o → σ[j]? = some p → o.live = true → p.live = true → C.θ[i]? = some e → C.θ[j]? = some f → e.b = some b → f.b = some b → i = j
  rgs : ∀ b r, C.rg b = some r → b < w.heap.size
  glb : GlobOk w C

/-- b is a block of a live object. -/
def Lives (C : Cz) (σ : List AObj) (b : Nat) : Prop := ∃ (i : Nat) (o : AObj) (e : Ent), σ[i]? = some o ∧ o.live = true ∧ C.θ[i]? = some e ∧ e.b = some b

structure Ext (w : World) (C : Cz) (σ : List AObj) (w' : World) (C' : Cz) (σ' : List AObj) : Prop where
  os : w'.os = w.os
  tape : w'.tape = w.tape
  output : w'.output = w.output
  size : w.heap.size ≤ w'.heap.size
  le : CzLe w C w' C'
  frame : ∀ b, b < w.heap.size → ¬ Lives C σ b → (∀ r, C.rg b = some r → isW r = false) → w'.heap[b]? = w.heap[b]?
  lives : ∀ b, Lives C' σ' b → Lives C σ b ∨ w.heap.size ≤ b
  newrg : ∀ b r, C'.rg b = some r → C.rg b = some r ∨ Lives C σ b ∨ w.heap.size ≤ b

theorem Ext.refl (w : World) (C : Cz) (σ : List AObj) : Ext w C σ w C σ :=
  ⟨rfl, rfl, rfl, Nat.le_refl _, .refl w C, fun _ _ _ _ => rfl, fun _ h => .inl h, fun _ _ h => .inl h⟩

theorem Ext.trans {w1 w2 w3 : World} {C1 C2 C3 : Cz} {s1 s2 s3 : List AObj} (h : Ext w1 C1 s1 w2 C2 s2) (k : Ext w2 C2 s2 w3 C3 s3) : Ext w1 C1 s1 w3 C3 s3 where
  os := k.os.trans h.os
  tape := k.tape.trans h.tape
  output := k.output.trans h.output
  size := Nat.le_trans h.size k.size
  le := h.le.trans k.le
  frame := fun b hb hn hw => (k.frame b (Nat.lt_of_lt_of_le hb h.size) (fun hl => by
    rcases h.lives b hl with h1 | h1
    · exact hn h1
    · omega) (fun r hr => by
    rcases h.newrg b r hr with h1 | h1 | h1
    · exact hw r h1
    · exact absurd h1 hn
    · omega)).trans (h.frame b hb hn hw)
  lives := fun b hb => by
    rcases k.lives b hb with h1 | h1
    · exact h.lives b h1
    · exact .inr (Nat.le_trans h.size h1)
  newrg := fun b r hb => by
    rcases k.newrg b r hb with h1 | h1 | h1
    · exact h.newrg b r h1
    · rcases h.lives b h1 with h2 | h2
      · exact .inr (.inl h2)
      · exact .inr (.inr h2)
    · exact .inr (.inr (Nat.le_trans h.size h1))

structure Dfr where
  f : FuncId
  args : List AV

/-- A state of a body: so many slots; what they hold (the newest first); the objects; the deferred calls. -/
structure St where
  n : Nat
  env : List (Nat × Val)
  σ : List AObj
  ds : List Dfr

def get : List (Nat × Val) → Nat → Val
  | [], _ => .junk
  | (s, v) :: r, t => bif Nat.beq s t then v else get r t

def DfrOk (w : World) (C : Cz) (d : Deferred) (x : Dfr) : Prop :=
  ∃ cap : Array Value, d.target = .fn (.func x.f) cap ∧ RepL w C (d.args ++ cap).toList x.args

structure EnvOk (w : World) (C : Cz) (a : Act) (S : St) : Prop where
  size : a.tmps.size = S.n
  env : ∀ t, RepV w C (a.tmps.getD t undef) (get S.env t)
  dlen : a.defers.length = S.ds.length
  ds : ∀ (i : Nat) d x, a.defers[i]? = some d → S.ds[i]? = some x → DfrOk w C d x

theorem DfrOk.mono {w w' : World} {C C' : Cz} (H : CzLe w C w' C') {d : Deferred} {x : Dfr} (h : DfrOk w C d x) : DfrOk w' C' d x := by
  obtain ⟨cap, h1, h2⟩ := h
  exact ⟨cap, h1, h2.mono H⟩

theorem EnvOk.mono {w w' : World} {C C' : Cz} (H : CzLe w C w' C') {a : Act} {S : St} (h : EnvOk w C a S) : EnvOk w' C' a S :=
  ⟨h.size, fun t => (h.env t).mono H, h.dlen, fun i d x h1 h2 => (h.ds i d x h1 h2).mono H⟩

theorem get_cons (s : Nat) (v : Val) (r : List (Nat × Val)) (t : Nat) : get ((s, v) :: r) t = if s = t then v else get r t := by
  show (bif Nat.beq s t then v else get r t) = _
  by_cases h : s = t
  · subst h; simp
  · rw [if_neg h]
    have : Nat.beq s t = false := by
      rw [Bool.eq_false_iff]
      exact fun hh => h (Nat.eq_of_beq_eq_true hh)
    rw [this]; rfl

theorem EnvOk.put {w : World} {C : Cz} {a : Act} {S : St} (h : EnvOk w C a S) {d : Nat} (hd : d < S.n) {v : Value} {x : Val} (hx : RepV w C v x) :
    EnvOk w C (a.put (some d) v) { S with env := (d, x) :: S.env } := by
  refine ⟨by simpa [Act.put] using h.size, fun t => ?_, h.dlen, h.ds⟩
  simp only [Act.put, get_cons]
  by_cases e : d = t
  · subst e
    rw [if_pos rfl]
    have : (a.tmps.setIfInBounds d v).getD d undef = v := by
      simp [Array.getD_eq_getD_getElem?, h.size, hd]
    rw [this]; exact hx
  · rw [if_neg e]
    have : (a.tmps.setIfInBounds d v).getD t undef = a.tmps.getD t undef := by
      simp [Array.getD_eq_getD_getElem?, Array.getElem?_setIfInBounds, e]
    rw [this]; exact h.env t

end Go.Proofs.YtmaokphbfjpodaaGreatDoor.E

/- The engine, part 2: memory: what becomes of the invariant as variables are made, written, frozen, rows appended to. No conditions. -/
set_option linter.unusedVariables false
set_option linter.unusedSimpArgs false
namespace Go.Proofs.YtmaokphbfjpodaaGreatDoor.E
open Go

theorem own_kept {w w' : World} {base : Nat} {e : TypeId} {size n : Nat} {v : Value} {xs : List Value} (h : w.ownsRow base e size v n xs)
    (hb : ∀ b, v.ownBlock = some b → w'.heap[b]? = w.heap[b]?) : w'.ownsRow base e size v n xs := by
  obtain ⟨h1, h2⟩ := h
  refine ⟨h1, ?_⟩
  rcases h2 with h2 | ⟨g, cap, cur, hv, hg, hh, r⟩
  · exact .inl h2
  · exact .inr ⟨g, cap, cur, hv, hg, by rw [hb g (by rw [hv]; rfl)]; exact hh, r⟩

theorem ObjOk.keep {w w' : World} {C C' : Cz} (H : CzLe w C w' C') {e : Ent} {o : AObj} (hb : o.live = true → ∀ b, e.b = some b → w'.heap[b]? = w.heap[b]?)
    (h : ObjOk w C e o) : ObjOk w' C' e o := by
  cases o with
  | var cells =>
    obtain ⟨h1, b, cs, ty, h2, h3, h4⟩ := h
    exact ⟨h1, b, cs, ty, h2, (hb rfl b h2).trans h3, h4.mono H⟩
  | row t sz rows =>
    obtain ⟨h1, h2, h3, h4, h5, xs, h6, h7⟩ := h
    refine ⟨h1, h2, h3, h4, h5, xs, own_kept h6 (fun b hv => hb rfl b (h3.trans hv)), fun j i row x hj hi => ?_⟩
    obtain ⟨v, hv, hr⟩ := h7 j i row x hj hi
    exact ⟨v, hv, hr.mono H.rg⟩
  | frz r cells =>
    obtain ⟨h1, b, cs, ty, fz, h2, h3, h4, h5⟩ := h
    refine ⟨h1, b, cs, ty, fz, h2, ⟨(H.rg b r h3.1).1, h3.2⟩, ((H.rg b r h3.1).2.eq h3.2).trans h4, fun i x hi => ?_⟩
    obtain ⟨v, hv, hr⟩ := h5 i x hi
    exact ⟨v, hv, hr.mono H.rg⟩
  | mp kk clock es =>
    obtain ⟨h1, b, arr, h2, h3, h4, h5⟩ := h
    refine ⟨h1, b, arr, h2, (hb rfl b h2).trans h3, h4, fun i me x hi hx => ?_⟩
    obtain ⟨q1, q2, q3, q4⟩ := h5 i me x hi hx
    exact ⟨q1, q2.mono H.rg, q3.mono H.rg, q4⟩
  | it m since seen c0 =>
    obtain ⟨h1, b, h2, ⟨u, bm, h3, h4, h5⟩ | ⟨s, h3, h5⟩⟩ := h
    · exact ⟨h1, b, h2, .inl ⟨u, bm, h3.mono H, h4, (hb rfl b h2).trans h5⟩⟩
    · exact ⟨h1, b, h2, .inr ⟨s, h3, (hb rfl b h2).trans h5⟩⟩
  | gone => trivial

theorem live_block {w : World} {C : Cz} {e : Ent} {o : AObj} (h : ObjOk w C e o) (hl : o.live = true) {b : Nat} (hb : e.b = some b) : b < w.heap.size := by
  cases o with
  | var cells =>
    obtain ⟨h1, b', cs, ty, h2, h3, h4⟩ := h
    rw [hb] at h2; cases h2
    exact (Array.getElem?_eq_some_iff.1 h3).1
  | row t sz rows =>
    obtain ⟨h1, h2, h3, h4, h5, xs, h6, h7⟩ := h
    exact (h6.lt b (h3 ▸ hb)).2
  | frz r cells => cases hl
  | mp kk clock es =>
    obtain ⟨h1, b', arr, h2, h3, h4⟩ := h
    rw [hb] at h2; cases h2
    exact (Array.getElem?_eq_some_iff.1 h3).1
  | it m since seen c0 =>
    obtain ⟨h1, b', h2, ⟨u, bm, h3, h4, h5⟩ | ⟨s, h3, h5⟩⟩ := h
    all_goals
      rw [hb] at h2; cases h2
      exact (Array.getElem?_eq_some_iff.1 h5).1
  | gone => cases hl

/-- The heap as it was (a draw). -/
theorem Inv.heap {w w' : World} {C : Cz} {σ : List AObj} (hh : w'.heap = w.heap) (h : Inv w C σ) : Inv w' C σ :=
  ⟨h.len, fun i o e h1 h2 => (h.ok i o e h1 h2).keep ⟨fun b r hr => ⟨hr, .inl (by rw [hh])⟩, fun i e he => ⟨e, he, .refl e⟩⟩ (fun _ b _ => by rw [hh]),
   fun i o e b h1 h2 h3 h4 => by rw [hh]; exact h.unrg i o e b h1 h2 h3 h4, h.apart, fun b r hb => by rw [hh]; exact h.rgs b r hb, h.glb.mono fun b hb => ⟨hb, by rw [hh]⟩⟩

theorem Ext.heap {w w' : World} {C : Cz} {σ : List AObj} (hh : w'.heap = w.heap) (ho : w'.os = w.os) (ht : w'.tape = w.tape) (hu : w'.output = w.output) : Ext w C σ w' C σ :=
  ⟨ho, ht, hu, by rw [hh]; exact Nat.le_refl _, ⟨fun b r hr => ⟨hr, .inl (by rw [hh])⟩, fun i e he => ⟨e, he, .refl e⟩⟩, fun b _ _ _ => by rw [hh], fun _ h => .inl h, fun _ _ h => .inl h⟩

theorem alloc_old (w : World) (o : Obj) {b : Nat} (h : b < w.heap.size) : (w.alloc o).heap[b]? = w.heap[b]? := by
  show (w.heap.push o)[b]? = _
  rw [Array.getElem?_push, if_neg (by omega)]
theorem alloc_new (w : World) (o : Obj) : (w.alloc o).heap[w.heap.size]? = some o := by
  show (w.heap.push o)[w.heap.size]? = _
  simp

/-- One object more, in a new block. -/
def Cz.add (C : Cz) (e : Ent) : Cz := ⟨C.θ ++ [e], C.rg⟩

theorem get_add {α : Type} (l : List α) (x : α) (i : Nat) (y : α) (h : l[i]? = some y) : (l ++ [x])[i]? = some y := by
  rw [List.getElem?_append_left (List.getElem?_eq_some_iff.1 h).1]; exact h
theorem add_get {α : Type} (l : List α) (x : α) (i : Nat) (y : α) (h : (l ++ [x])[i]? = some y) : (i < l.length ∧ l[i]? = some y) ∨ (i = l.length ∧ y = x) := by
  by_cases hi : i < l.length
  · rw [List.getElem?_append_left hi] at h; exact .inl ⟨hi, h⟩
  · rw [List.getElem?_append_right (by omega)] at h
    have : i - l.length = 0 := by
      rcases Nat.eq_zero_or_pos (i - l.length) with h0 | h0
      · exact h0
      · rw [List.getElem?_eq_none (by simp; omega)] at h; cases h
    rw [this] at h
    simp at h
    exact .inr ⟨by omega, h.symm⟩

theorem CzLe.add {w w' : World} {C : Cz} (e : Ent) (h : ∀ b r, C.rg b = some r → w'.heap[b]? = w.heap[b]?) : CzLe w C w' (C.add e) :=
  ⟨fun b r hb => ⟨hb, .inl (h b r hb)⟩, fun i x hx => ⟨x, get_add _ _ _ _ hx, .refl x⟩⟩

/-- A new object whose block (if any) is the new one. -/
theorem Inv.addNew {w w' : World} {C : Cz} {σ : List AObj} (h : Inv w C σ) {e : Ent} {o : AObj} (hsz : w.heap.size ≤ w'.heap.size)
    (hold : ∀ b, b < w.heap.size → w'.heap[b]? = w.heap[b]?) (hnew : ∀ b, e.b = some b → w.heap.size ≤ b ∧ b < w'.heap.size) (hok : ObjOk w' (C.add e) e o) :
    Inv w' (C.add e) (σ ++ [o]) := by
  have hle : CzLe w C w' (C.add e) := CzLe.add e (fun b r hb => hold b (h.rgs b r hb))
  refine ⟨by simp [Cz.add, h.len], fun i p f h1 h2 => ?_, fun i p f b h1 h2 h3 h4 => ?_, fun i j p q f g b h1 h2 h3 h4 h5 h6 h7 h8 => ?_, fun b r hb => Nat.lt_of_lt_of_le (h.rgs b r hb) hsz, h.glb.le hle⟩
  · rcases add_get _ _ _ _ h1 with ⟨k1, k2⟩ | ⟨k1, k2⟩ <;> rcases add_get _ _ _ _ h2 with ⟨l1, l2⟩ | ⟨l1, l2⟩
    · exact (h.ok i p f k2 l2).keep hle (fun hl b hb => hold b (live_block (h.ok i p f k2 l2) hl hb))
    · have := h.len; omega
    · have := h.len; omega
    · subst k2; subst l2; exact hok
  · rcases add_get _ _ _ _ h1 with ⟨k1, k2⟩ | ⟨k1, k2⟩ <;> rcases add_get _ _ _ _ h3 with ⟨l1, l2⟩ | ⟨l1, l2⟩
    · have := h.unrg i p f b k2 h2 l2 h4
      exact ⟨this.1, by omega⟩
    · have := h.len; omega
    · have := h.len; omega
    · subst l2
      refine ⟨?_, (hnew b h4).2⟩
      cases hr : C.rg b with
      | none => exact hr
      | some r => have := h.rgs b r hr; have := (hnew b h4).1; omega
  · rcases add_get _ _ _ _ h1 with ⟨k1, k2⟩ | ⟨k1, k2⟩ <;> rcases add_get _ _ _ _ h5 with ⟨l1, l2⟩ | ⟨l1, l2⟩ <;>
      rcases add_get _ _ _ _ h2 with ⟨m1, m2⟩ | ⟨m1, m2⟩ <;> rcases add_get _ _ _ _ h6 with ⟨n1, n2⟩ | ⟨n1, n2⟩ <;>
      first
        | (have := h.len; omega)
        | (exact h.apart i j p q f g b k2 m2 h3 h4 l2 n2 h7 h8)
        | (subst l2; have h9 := live_block (h.ok j q g m2 n2) h4 h8; have h10 := (hnew b h7).1; omega)
        | (subst n2; have h9 := live_block (h.ok i p f k2 l2) h3 h7; have h10 := (hnew b h8).1; omega)

theorem Ext.addNew {w w' : World} {C : Cz} {σ : List AObj} (h : Inv w C σ) {e : Ent} {o : AObj} (hos : w'.os = w.os) (ht : w'.tape = w.tape) (hu : w'.output = w.output) (hsz : w.heap.size ≤ w'.heap.size)
    (hold : ∀ b, b < w.heap.size → w'.heap[b]? = w.heap[b]?) (hnew : ∀ b, e.b = some b → w.heap.size ≤ b) : Ext w C σ w' (C.add e) (σ ++ [o]) := by
  refine ⟨hos, ht, hu, hsz, CzLe.add e (fun b r hb => hold b (h.rgs b r hb)), fun b hb _ _ => hold b hb, fun b hb => ?_, fun b r hb => .inl hb⟩
  obtain ⟨i, p, f, h1, h2, h3, h4⟩ := hb
  rcases add_get _ _ _ _ h1 with ⟨k1, k2⟩ | ⟨k1, k2⟩ <;> rcases add_get _ _ _ _ h3 with ⟨l1, l2⟩ | ⟨l1, l2⟩
  · exact .inl ⟨i, p, f, k2, h2, l2, h4⟩
  · have := h.len; omega
  · have := h.len; omega
  · subst l2; exact .inr (hnew b h4)

/-- A new variable. -/
theorem step_var {w : World} {C : Cz} {σ : List AObj} (h : Inv w C σ) (arr : Array Value) (ty : TypeId) (cells : List AV) (hc : RepL w C arr.toList cells) :
    ∃ C', Inv (w.alloc (.cells arr ty)) C' (σ ++ [.var cells]) ∧ Ext w C σ (w.alloc (.cells arr ty)) C' (σ ++ [.var cells]) ∧
      RepA (w.alloc (.cells arr ty)) C' (.pointer (some ⟨w.heap.size, 0, none⟩)) (.ptr σ.length 0) := by
  have hsz : w.heap.size ≤ (w.alloc (.cells arr ty)).heap.size := by simp
  have hold : ∀ b, b < w.heap.size → (w.alloc (.cells arr ty)).heap[b]? = w.heap[b]? := fun b hb => alloc_old w _ hb
  have hle : CzLe w C (w.alloc (.cells arr ty)) (C.add ⟨false, some w.heap.size, 0, default⟩) := CzLe.add _ (fun b r hb => hold b (h.rgs b r hb))
  refine ⟨C.add ⟨false, some w.heap.size, 0, default⟩, h.addNew hsz hold (fun b hb => ?_) ⟨rfl, w.heap.size, arr, ty, rfl, alloc_new w _, hc.mono hle⟩, Ext.addNew h rfl rfl rfl hsz hold (fun b hb => ?_), ?_⟩
  · cases hb; simp
  · cases hb; exact Nat.le_refl _
  · exact .ptr _ 0 w.heap.size ⟨false, some w.heap.size, 0, default⟩ (by simp [Cz.add, ← h.len]) rfl rfl

/-- A new block that is read only. -/
def Cz.reg (C : Cz) (b r : Nat) : Cz := ⟨C.θ, fun x => if x = b then some r else C.rg x⟩

theorem Inv.reg {w w' : World} {C : Cz} {σ : List AObj} (h : Inv w C σ) (r : Nat) (hsz : w.heap.size < w'.heap.size) (hold : ∀ b, b < w.heap.size → w'.heap[b]? = w.heap[b]?) :
    CzLe w C w' (C.reg w.heap.size r) ∧ Inv w' (C.reg w.heap.size r) σ := by
  have hle : CzLe w C w' (C.reg w.heap.size r) := ⟨fun b q hb => by
    have := h.rgs b q hb
    exact ⟨by simp only [Cz.reg]; rw [if_neg (by omega)]; exact hb, .inl (hold b this)⟩, fun i e he => ⟨e, he, .refl e⟩⟩
  refine ⟨hle, h.len, fun i o e h1 h2 => (h.ok i o e h1 h2).keep hle (fun hl b hb => hold b (live_block (h.ok i o e h1 h2) hl hb)), fun i o e b h1 h2 h3 h4 => ?_, h.apart, fun b q hb => ?_, h.glb.le hle⟩
  · have := h.unrg i o e b h1 h2 h3 h4
    exact ⟨by simp only [Cz.reg]; rw [if_neg (by omega)]; exact this.1, by omega⟩
  · simp only [Cz.reg] at hb
    split at hb
    · omega
    · have := h.rgs b q hb; omega

theorem Ext.reg {w w' : World} {C : Cz} {σ : List AObj} (h : Inv w C σ) (r : Nat) (hos : w'.os = w.os) (ht : w'.tape = w.tape) (hu : w'.output = w.output) (hsz : w.heap.size < w'.heap.size)
    (hold : ∀ b, b < w.heap.size → w'.heap[b]? = w.heap[b]?) : Ext w C σ w' (C.reg w.heap.size r) σ := by
  refine ⟨hos, ht, hu, by omega, (h.reg r hsz hold).1, fun b hb _ _ => hold b hb, fun b hb => .inl hb, fun b q hb => ?_⟩
  simp only [Cz.reg] at hb
  split at hb
  · exact .inr (.inr (by omega))
  · exact .inl hb

/-- What object i has becomes another; the world turns in its block alone. -/
def Cz.upd (C : Cz) (i : Nat) (e : Ent) : Cz := ⟨C.θ.set i e, C.rg⟩

theorem set_get {α : Type} (l : List α) (i j : Nat) (x y : α) (h : (l.set i x)[j]? = some y) : (i = j ∧ y = x) ∨ (i ≠ j ∧ l[j]? = some y) := by
  by_cases e : i = j
  · subst e
    rw [List.getElem?_set] at h
    simp at h
    exact .inl ⟨rfl, h.2.symm⟩
  · rw [List.getElem?_set_ne e] at h; exact .inr ⟨e, h⟩

theorem Inv.upd {w w' : World} {C : Cz} {σ : List AObj} (h : Inv w C σ) {i : Nat} {o o' : AObj} {e e' : Ent} (hi : σ[i]? = some o) (he : C.θ[i]? = some e) (hl : o.live = true)
    (hsz : w.heap.size ≤ w'.heap.size) (hle : EntLe e e')
    (hold : ∀ b, b < w.heap.size → e.b ≠ some b → w'.heap[b]? = w.heap[b]?)
    (hnew : ∀ b, e'.b = some b → e.b = some b ∨ (w.heap.size ≤ b ∧ b < w'.heap.size)) (hok : CzLe w C w' (C.upd i e') → ObjOk w' (C.upd i e') e' o') :
    CzLe w C w' (C.upd i e') ∧ Inv w' (C.upd i e') (σ.set i o') := by
  have hun : ∀ b, e.b = some b → C.rg b = none ∧ b < w.heap.size := fun b hb => h.unrg i o e b hi hl he hb
  have hold2 : ∀ b r, C.rg b = some r → w'.heap[b]? = w.heap[b]? := fun b r hb => hold b (h.rgs b r hb) (fun hc => by rw [(hun b hc).1] at hb; cases hb)
  have hc : CzLe w C w' (C.upd i e') := ⟨fun b r hb => ⟨hb, .inl (hold2 b r hb)⟩, fun j f hf => by
    by_cases e1 : i = j
    · subst e1
      rw [he] at hf; cases hf
      refine ⟨e', ?_, hle⟩
      simp [Cz.upd, List.getElem?_set, (List.getElem?_eq_some_iff.1 he).1]
    · exact ⟨f, by simp only [Cz.upd]; rw [List.getElem?_set_ne e1]; exact hf, .refl f⟩⟩
  refine ⟨hc, by simp [Cz.upd, h.len], fun j p f h1 h2 => ?_, fun j p f b h1 h2 h3 h4 => ?_, fun j k p q f g b h1 h2 h3 h4 h5 h6 h7 h8 => ?_, fun b r hb => Nat.lt_of_lt_of_le (h.rgs b r hb) hsz, h.glb.le hc⟩
  · rcases set_get _ _ _ _ _ h1 with ⟨k1, k2⟩ | ⟨k1, k2⟩ <;> rcases set_get _ _ _ _ _ h2 with ⟨l1, l2⟩ | ⟨l1, l2⟩
    · subst k2; subst l2; exact hok hc
    · exact absurd k1 l1
    · exact absurd l1 k1
    · refine (h.ok j p f k2 l2).keep hc (fun hpl b hb => hold b (live_block (h.ok j p f k2 l2) hpl hb) (fun hcb => k1 (h.apart i j o p e f b hi k2 hl hpl he l2 hcb hb)))
  · rcases set_get _ _ _ _ _ h1 with ⟨k1, k2⟩ | ⟨k1, k2⟩ <;> rcases set_get _ _ _ _ _ h3 with ⟨l1, l2⟩ | ⟨l1, l2⟩
    · subst l2
      rcases hnew b h4 with h5 | ⟨h5, h6⟩
      · have := hun b h5; exact ⟨this.1, by omega⟩
      · refine ⟨?_, h6⟩
        cases hr : C.rg b with
        | none => exact hr
        | some r => have := h.rgs b r hr; omega
    · exact absurd k1 l1
    · exact absurd l1 k1
    · have := h.unrg j p f b k2 h2 l2 h4
      exact ⟨this.1, by omega⟩
  · rcases set_get _ _ _ _ _ h1 with ⟨k1, k2⟩ | ⟨k1, k2⟩ <;> rcases set_get _ _ _ _ _ h5 with ⟨l1, l2⟩ | ⟨l1, l2⟩ <;>
      rcases set_get _ _ _ _ _ h2 with ⟨m1, m2⟩ | ⟨m1, m2⟩ <;> rcases set_get _ _ _ _ _ h6 with ⟨n1, n2⟩ | ⟨n1, n2⟩ <;>
      first
        | (exact absurd ‹i = j› ‹i ≠ j›)
        | (exact absurd ‹i = k› ‹i ≠ k›)
        | (exact k1.symm.trans m1)
        | (exact h.apart j k p q f g b k2 m2 h3 h4 l2 n2 h7 h8)
        | (subst l2
           rcases hnew b h7 with h9 | ⟨h9, _⟩
           · exact absurd (h.apart i k o q e g b hi m2 hl h4 he n2 h9 h8) m1
           · have h10 := live_block (h.ok k q g m2 n2) h4 h8; omega)
        | (subst n2
           rcases hnew b h8 with h9 | ⟨h9, _⟩
           · exact absurd (h.apart i j o p e f b hi k2 hl h3 he l2 h9 h7) k1
           · have h10 := live_block (h.ok j p f k2 l2) h3 h7; omega)

theorem Ext.upd {w w' : World} {C : Cz} {σ : List AObj} (h : Inv w C σ) {i : Nat} {o o' : AObj} {e e' : Ent} (hi : σ[i]? = some o) (he : C.θ[i]? = some e) (hl : o.live = true)
    (hos : w'.os = w.os) (ht : w'.tape = w.tape) (hu : w'.output = w.output) (hsz : w.heap.size ≤ w'.heap.size) (hc : CzLe w C w' (C.upd i e'))
    (hold : ∀ b, b < w.heap.size → e.b ≠ some b → w'.heap[b]? = w.heap[b]?)
    (hnew : ∀ b, e'.b = some b → e.b = some b ∨ w.heap.size ≤ b) : Ext w C σ w' (C.upd i e') (σ.set i o') := by
  refine ⟨hos, ht, hu, hsz, hc, fun b hb hn _ => hold b hb (fun hcb => hn ⟨i, o, e, hi, hl, he, hcb⟩), fun b hb => ?_, fun b r hb => .inl hb⟩
  obtain ⟨j, p, f, h1, h2, h3, h4⟩ := hb
  rcases set_get _ _ _ _ _ h1 with ⟨k1, k2⟩ | ⟨k1, k2⟩ <;> rcases set_get _ _ _ _ _ h3 with ⟨l1, l2⟩ | ⟨l1, l2⟩
  · subst l2
    rcases hnew b h4 with h5 | h5
    · exact .inl ⟨i, o, e, hi, hl, he, h5⟩
    · exact .inr h5
  · exact absurd k1 l1
  · exact absurd l1 k1
  · exact .inl ⟨j, p, f, k2, h2, l2, h4⟩

/-- An object of our own is read only from now on. -/
def Cz.frz (C : Cz) (e : Ent) (r : Nat) : Cz := ⟨C.θ, fun x => if e.b = some x then some r else C.rg x⟩

theorem Inv.frz {w : World} {C : Cz} {σ : List AObj} (h : Inv w C σ) {i : Nat} {o o' : AObj} {e : Ent} (hi : σ[i]? = some o) (he : C.θ[i]? = some e) (hl : o.live = true) (r : Nat) (ho' : o'.live = false)
    (hok : CzLe w C w (C.frz e r) → ObjOk w (C.frz e r) e o') : CzLe w C w (C.frz e r) ∧ Inv w (C.frz e r) (σ.set i o') ∧ Ext w C σ w (C.frz e r) (σ.set i o') := by
  have hun : ∀ b, e.b = some b → C.rg b = none ∧ b < w.heap.size := fun b hb => h.unrg i o e b hi hl he hb
  have hc : CzLe w C w (C.frz e r) := ⟨fun b q hb => ⟨by
    simp only [Cz.frz]
    rw [if_neg (fun hx => by rw [(hun b hx).1] at hb; cases hb)]; exact hb, .inl rfl⟩, fun j f hf => ⟨f, hf, .refl f⟩⟩
  refine ⟨hc, ⟨by simp [Cz.frz, h.len], fun j p f h1 h2 => ?_, fun j p f b h1 h2 h3 h4 => ?_, fun j k p q f g b h1 h2 h3 h4 h5 h6 h7 h8 => ?_, fun b q hb => ?_, h.glb.le hc⟩, ⟨rfl, rfl, rfl, Nat.le_refl _, hc, fun _ _ _ _ => rfl, fun b hb => ?_, fun b q hb => ?_⟩⟩
  · rcases set_get _ _ _ _ _ h1 with ⟨k1, k2⟩ | ⟨k1, k2⟩
    · subst k1; subst k2
      rw [show C.θ[i]? = some f from h2] at he; cases he
      exact hok hc
    · exact (h.ok j p f k2 h2).keep hc (fun _ _ _ => rfl)
  · rcases set_get _ _ _ _ _ h1 with ⟨k1, k2⟩ | ⟨k1, k2⟩
    · subst k2; rw [ho'] at h2; cases h2
    · have := h.unrg j p f b k2 h2 h3 h4
      refine ⟨?_, this.2⟩
      simp only [Cz.frz]
      rw [if_neg (fun hx => k1 (h.apart i j o p e f b hi k2 hl h2 he h3 hx h4))]
      exact this.1
  · rcases set_get _ _ _ _ _ h1 with ⟨k1, k2⟩ | ⟨k1, k2⟩
    · subst k2; rw [ho'] at h3; cases h3
    · rcases set_get _ _ _ _ _ h2 with ⟨l1, l2⟩ | ⟨l1, l2⟩
      · subst l2; rw [ho'] at h4; cases h4
      · exact h.apart j k p q f g b k2 l2 h3 h4 h5 h6 h7 h8
  · simp only [Cz.frz] at hb
    split at hb
    · exact (hun b ‹_›).2
    · exact h.rgs b q hb
  · obtain ⟨j, p, f, h1, h2, h3, h4⟩ := hb
    rcases set_get _ _ _ _ _ h1 with ⟨k1, k2⟩ | ⟨k1, k2⟩
    · subst k2; rw [ho'] at h2; cases h2
    · exact .inl ⟨j, p, f, k2, h2, h3, h4⟩
  · simp only [Cz.frz] at hb
    split at hb
    · exact .inr (.inl ⟨i, o, e, hi, hl, he, ‹_›⟩)
    · exact .inl hb

end Go.Proofs.YtmaokphbfjpodaaGreatDoor.E

/- The engine, part 3: the table of types, and what single operations do to data. No conditions. -/
set_option linter.unusedVariables false
set_option linter.unusedSimpArgs false
namespace Go.Proofs.YtmaokphbfjpodaaGreatDoor.E
open Go

/-! ### Types -/
inductive TK where
  | other | bool | int (k : IntKind) | str | ptr | sl (e : TypeId) | arr (n : Nat) (e : TypeId) | map (k e : TypeId) | strct | fn | ifc

structure TI where
  k : TK
  sz : Nat
  bytes : Nat
  zero : List DV
  flds : List (Nat × Nat)
  nrm : List (Option Nat)

/-- How a value is handed over: as data (with the widths of its slices' elements), or as it is. -/
inductive PM where
  | fz (n : List (Option Nat))
  | ref

structure Tab where
  ti : Nat → Option TI
  fok : Nat → Bool
  prm : Nat → List PM
  rsl : Nat → List PM
  eqa : Nat → Bool

def TI.agg (i : TI) : Bool := match i.k with | .strct | .arr _ _ => true | _ => false

def isZ : DV → Value → Bool
  | .int k n, .int k' n' => k == k' && n == n'
  | .bool b, .bool b' => b == b'
  | .str s, .string s' => decide (s = s')
  | .nils, .slice none 0 0 => true
  | .nilp, .pointer none => true
  | .nilf, .nilFunc => true
  | .nilm, .map none => true
  | .nili, .nilIface => true
  | _, _ => false

theorem isZ_rep {w : World} {rg : Nat → Option Nat} {x : DV} {v : Value} (h : isZ x v = true) : RepD w rg v x := by
  cases x <;> cases v <;> (try (simp [isZ] at h; done))
  · simp only [isZ, Bool.and_eq_true, beq_iff_eq] at h; obtain ⟨rfl, rfl⟩ := h; exact .int _ _
  · simp only [isZ, beq_iff_eq] at h; subst h; exact .bool _
  · simp only [isZ, decide_eq_true_eq] at h; subst h; exact .str _
  · unfold isZ at h
    split at h <;> first | (cases h; done) | skip
    all_goals simp_all
    exact .nils
  · unfold isZ at h
    split at h <;> first | (cases h; done) | skip
    all_goals simp_all
    exact .nilp
  · exact .nilf
  · unfold isZ at h
    split at h <;> first | (cases h; done) | skip
    all_goals simp_all
    exact .nilm
  · exact .nili

def allZ : List DV → List Value → Bool
  | [], [] => true
  | x :: xs, v :: vs => isZ x v && allZ xs vs
  | _, _ => false

theorem allZ_rep {w : World} {C : Cz} : ∀ {xs : List DV} {vs : List Value}, allZ xs vs = true → RepL w C vs (xs.map .d)
  | [], [], _ => ⟨rfl, fun i v a h => by simp at h⟩
  | x :: xs, v :: vs, h => by
    simp only [allZ, Bool.and_eq_true] at h
    have ih := allZ_rep (w := w) (C := C) h.2
    refine ⟨by have := ih.1; simp at this ⊢; exact this, fun i u a h1 h2 => ?_⟩
    cases i with
    | zero => simp at h1 h2; subst h1; subst h2; exact .d _ _ (isZ_rep h.1)
    | succ i => simp at h1 h2; exact ih.2 i u a h1 (by simpa using h2)
  | [], _ :: _, h => by cases h
  | _ :: _, [], h => by cases h

def kindOk : TK → TypeDesc → Bool
  | .other, _ => true
  | .bool, .bool => true
  | .int k, .int k' => k == k'
  | .str, .string => true
  | .ptr, .pointer _ => true
  | .sl e, .slice e' => e == e'
  | .arr n e, .array n' e' => n == n' && e == e'
  | .map k e, .map k' e' => k == k' && e == e'
  | .strct, .struct _ => true
  | .fn, .func _ _ _ => true
  | .ifc, .interface _ => true
  | _, _ => false

def fldsOk (P : Program) (fs : Array Field) : Nat → List (Nat × Nat) → Bool
  | _, [] => true
  | f, (off, ty) :: r => (match fs[f]? with
      | some fd => fd.offset == off && fd.type == ty && (match P.info? ty with | some i => i.size != 0 | none => false)
      | none => false) && fldsOk P fs (f + 1) r

def tiCheck (P : Program) (t : Nat) (i : TI) : Bool :=
  match P.info? t, P.underlying t with
  | some info, some d => kindOk i.k d && info.size == i.sz && info.bytes == i.bytes &&
      (match i.k, d with | .strct, .struct fs => fldsOk P fs 0 i.flds && i.flds.length == fs.size | .other, .struct _ => false | .other, .array _ _ => false | _, _ => true) &&
      (match info.zero with | some z => allZ i.zero z.cells.toList && (z.cells.size == i.sz) && ((match z with | .agg _ => true | _ => false) == i.agg) | none => false)
  | _, _ => false

/-- A type of arrays, of structs that may be tested. -/
def eqaCheck (P : Program) (t : Nat) : Bool := !(P.eqGuardType P.depth t) && (match P.underlying t with | some (.array _ e) => P.plainKey e | some (.struct fs) => !P.stoodInHeld t && fs.toList.all (fun f => f.name != "_" && P.plainKey f.type) | _ => false)
structure TabOk (P : Program) (T : Tab) : Prop where
  eqa : ∀ t, T.eqa t = true → eqaCheck P t = true
  ti : ∀ t i, T.ti t = some i → tiCheck P t i = true
  fok : ∀ f, T.fok f = true → ∀ args w, (callFunc f args).run P w = .ok (.enter f args) w

theorem ti_parts {P : Program} {t : Nat} {i : TI} (h : tiCheck P t i = true) : ∃ info d z, P.info? t = some info ∧ P.underlying t = some d ∧ kindOk i.k d = true ∧ info.size = i.sz ∧
    info.bytes = i.bytes ∧ (∀ fs, i.k = .strct → d = .struct fs → fldsOk P fs 0 i.flds = true ∧ i.flds.length = fs.size) ∧ info.zero = some z ∧ allZ i.zero z.cells.toList = true ∧ z.cells.size = i.sz ∧ d.isRow = i.agg ∧
    (i.agg = true ↔ ∃ arr, z = .agg arr) := by
  unfold tiCheck at h
  split at h
  · rename_i info d h1 h2
    simp only [Bool.and_eq_true, beq_iff_eq, bne_iff_ne] at h
    obtain ⟨⟨⟨⟨hk, hs⟩, hb⟩, hf⟩, hz⟩ := h
    split at hz
    · rename_i z hz1
      simp only [Bool.and_eq_true, beq_iff_eq] at hz
      obtain ⟨⟨hz2, hz3⟩, hz4⟩ := hz
      refine ⟨info, d, z, h1, h2, hk, hs, hb, fun fs e1 e2 => by subst e2; rw [e1] at hf; simpa using hf, hz1, hz2, hz3, ?_, ?_⟩
      · cases hik : i.k <;> cases d <;> simp_all [kindOk, TI.agg, TypeDesc.isRow]
      · rw [← hz4]
        cases z <;> simp
    · cases hz
  · cases h

theorem fldsOk_get {P : Program} {fs : Array Field} : ∀ (l : List (Nat × Nat)) (k : Nat), fldsOk P fs k l = true → ∀ (j off ty : Nat), l[j]? = some (off, ty) →
    ∃ fd i, fs[k + j]? = some fd ∧ fd.offset = off ∧ fd.type = ty ∧ P.info? ty = some i ∧ i.size ≠ 0
  | [], _, _, _, _, _, h => by simp at h
  | (o, y) :: r, k, h, j, off, ty, hj => by
    simp only [fldsOk, Bool.and_eq_true] at h
    cases j with
    | zero =>
      simp at hj
      obtain ⟨rfl, rfl⟩ := hj
      obtain ⟨h, -⟩ := h
      split at h
      · rename_i fd hfd
        simp only [Bool.and_eq_true, beq_iff_eq] at h
        obtain ⟨⟨h1, h2⟩, h3⟩ := h
        split at h3
        · rename_i i hi
          exact ⟨fd, i, by simpa using hfd, h1, h2, hi, by simpa using h3⟩
        · cases h3
      · cases h
    | succ j =>
      have := fldsOk_get r (k + 1) h.2 j off ty (by simpa using hj)
      rw [show k + 1 + j = k + (j + 1) by omega] at this
      exact this

/-! ### Operands -/
def cval : Value → Val
  | .int k n => .c (.d (.int k n))
  | .bool b => .c (.d (.bool b))
  | .string s => .c (.d (.str s))
  | .slice none 0 0 => .c (.d .nils)
  | .nilIface => .c (.d .nili)
  | .nilFunc => .c (.d .nilf)
  | .pointer none => .c (.d .nilp)
  | _ => .junk

theorem cval_rep {w : World} {C : Cz} (v : Value) : RepV w C v (cval v) := by
  unfold cval
  split
  · exact .c _ _ (.d _ _ (.int _ _))
  · exact .c _ _ (.d _ _ (.bool _))
  · exact .c _ _ (.d _ _ (.str _))
  · exact .c _ _ (.d _ _ .nils)
  · exact .c _ _ (.d _ _ .nili)
  · exact .c _ _ (.d _ _ .nilf)
  · exact .c _ _ (.d _ _ .nilp)
  · exact .junk _

def ev (env : List (Nat × Val)) : Operand → Val
  | .tmp t => get env t
  | .const v => cval v
  | .global _ => .junk
  | .func f => .c (.fn f [] [])

theorem ev_rep {w : World} {C : Cz} {a : Act} {S : St} (h : EnvOk w C a S) (x : Operand) : RepV w C (a.eval x) (ev S.env x) := by
  cases x with
  | tmp t => exact h.env t
  | const v => exact cval_rep v
  | global g => exact .junk _
  | func f => exact .c _ _ (.fn f #[] #[] [] [] (fun _ => default) (fun _ => default) rfl rfl (fun i hi => by simp at hi) (fun i hi => by simp at hi) (fun i x h => by simp at h) (fun i x h => by simp at h))

def Val.cells : Val → Option (List AV)
  | .c a => some [a]
  | .agg cs => some cs
  | _ => none

theorem RepL.one {w : World} {C : Cz} {v : Value} {a : AV} (h : RepA w C v a) : RepL w C [v] [a] :=
  ⟨rfl, fun i u b h1 h2 => by
    cases i with
    | zero => simp at h1 h2; subst h1; subst h2; exact h
    | succ i => simp at h1⟩

theorem cells_of_one {v : Value} (h : v.oneCell' = true) : v.cells = #[v] := by cases v <;> first | rfl | cases h

theorem cells_rep {w : World} {C : Cz} {v : Value} {x : Val} {cs : List AV} (h : RepV w C v x) (hx : x.cells = some cs) : RepL w C v.cells.toList cs := by
  cases h with
  | c _ a h =>
    simp [Val.cells] at hx; subst hx
    rw [cells_of_one h.oneCell]; exact RepL.one h
  | agg arr cells h => simp [Val.cells] at hx; subst hx; exact h
  | tup arr vs hs h => cases hx
  | junk v => cases hx

theorem RepL.oneCell {w : World} {C : Cz} {vs : List Value} {as : List AV} (h : RepL w C vs as) : ∀ v ∈ vs, v.oneCell' = true := by
  intro v hv
  obtain ⟨i, hi⟩ := List.getElem?_of_mem hv
  have hlt : i < as.length := by rw [← h.1]; exact (List.getElem?_eq_some_iff.1 hi).1
  exact (h.2 i v _ hi (List.getElem?_eq_getElem hlt)).oneCell

end Go.Proofs.YtmaokphbfjpodaaGreatDoor.E

/- The engine, part 4: what single operations (no calls) do to data, and that the machine does the same. No conditions. -/
set_option linter.unusedVariables false
set_option linter.unusedSimpArgs false
namespace Go.Proofs.YtmaokphbfjpodaaGreatDoor.E
open Go

/-- A computation of the machine comes to a value, as K wants it. -/
def OK1 (P : Program) (s : Sem Value) (w : World) (C : Cz) (σ : List AObj) (K : Val → List AObj → Prop) : Prop :=
  ∃ v w' C' x σ', s.run P w = .ok v w' ∧ K x σ' ∧ Inv w' C' σ' ∧ Ext w C σ w' C' σ' ∧ RepV w' C' v x

theorem OK1.same {P : Program} {s : Sem Value} {w : World} {C : Cz} {σ : List AObj} {K : Val → List AObj → Prop} (hi : Inv w C σ) {v : Value} {x : Val} (h : s.run P w = .ok v w) (hk : K x σ) (hr : RepV w C v x) :
    OK1 P s w C σ K := ⟨v, w, C, x, σ, h, hk, hi, .refl w C σ, hr⟩

/-- The same, the world as it was. -/
def OKS (P : Program) (s : Sem Value) (w : World) (C : Cz) (K : Val → Prop) : Prop := ∃ v x, s.run P w = .ok v w ∧ K x ∧ RepV w C v x
theorem OKS.same {P : Program} {s : Sem Value} {w : World} {C : Cz} {K : Val → Prop} {v : Value} {x : Val} (h : s.run P w = .ok v w) (hk : K x) (hr : RepV w C v x) : OKS P s w C K := ⟨v, x, h, hk, hr⟩
theorem OKS.ok1 {P : Program} {s : Sem Value} {w : World} {C : Cz} {σ : List AObj} {K : Val → List AObj → Prop} (hi : Inv w C σ) (h : OKS P s w C (fun v => K v σ)) : OK1 P s w C σ K := by
  obtain ⟨v, x, h1, h2, h3⟩ := h
  exact OK1.same hi h1 h2 h3

section
variable {P : Program} {T : Tab} (HT : TabOk P T)

def takeN {α : Type} : Nat → List α → Option (List α)
  | 0, _ => some []
  | n + 1, a :: l => match takeN n l with | some r => some (a :: r) | none => none
  | _ + 1, [] => none

theorem takeN_some {α : Type} : ∀ {n : Nat} {l r : List α}, takeN n l = some r → r.length = n ∧ n ≤ l.length ∧ r = l.take n
  | 0, l, r, h => by simp [takeN] at h; subst h; simp
  | n + 1, [], r, h => by simp [takeN] at h
  | n + 1, a :: l, r, h => by
    simp only [takeN] at h
    split at h
    · rename_i r' hr
      obtain ⟨h1, h2, h3⟩ := takeN_some hr
      cases h
      simp [h1, h2, h3]
    · cases h

/-- The cells of a place, as a value of type i. -/
def aCells (i : TI) (cs : List AV) (K : Val → Prop) : Prop :=
  bif i.agg then (match takeN i.sz cs with | some ys => K (.agg ys) | none => False)
  else (match cs with | a :: _ => K (.c a) | [] => False)

theorem RepL.drop {w : World} {C : Cz} {vs : List Value} {as : List AV} (h : RepL w C vs as) (k : Nat) : RepL w C (vs.drop k) (as.drop k) :=
  ⟨by simp [h.1], fun i v a h1 h2 => h.2 (k + i) v a (by simpa using h1) (by simpa using h2)⟩
theorem RepL.take {w : World} {C : Cz} {vs : List Value} {as : List AV} (h : RepL w C vs as) (k : Nat) : RepL w C (vs.take k) (as.take k) :=
  ⟨by simp [h.1], fun i v a h1 h2 => by
    rw [List.getElem?_take] at h1 h2
    split at h1
    · rw [if_pos ‹_›] at h2; exact h.2 i v a h1 h2
    · cases h1⟩

include HT in
/-- A place that holds these values is read. -/
theorem ok_cells (t : Nat) (i : TI) (hi : T.ti t = some i) {w : World} {C : Cz} {σ : List AObj} (hI : Inv w C σ) (b o : Nat) (cs : Array Value) (ty : TypeId) (fz : Nat × Nat)
    (hh : w.heap[b]? = some (.cells cs ty fz)) {as : List AV} (hr : RepL w C (cs.toList.drop o) as) {K : Val → List AObj → Prop} (hk : aCells i as (fun v => K v σ)) :
    OKS P (Instr.loadAt t (.pointer (some ⟨b, o, none⟩))) w C (fun v => K v σ) := by
  obtain ⟨info, d, z, h1, h2, h3, h4, h6, h7, h8, h9, h10, h11, h12⟩ := ti_parts (HT.ti t i hi)
  have hc : ∀ j v, (cs.toList.drop o)[j]? = some v → w.cell? ⟨b, o + j, none⟩ = some v := fun j v hv => by
    rw [List.getElem?_drop, Array.getElem?_toList] at hv
    simp [World.cell?, hh, hv]
  unfold aCells at hk
  cases ha : i.agg with
  | true =>
    rw [ha] at hk
    simp only [cond_true] at hk
    split at hk
    · rename_i ys hy
      obtain ⟨g1, g2, g3⟩ := takeN_some hy
      have hl : ((cs.toList.drop o).take i.sz).length = i.sz := by rw [List.length_take, hr.1]; omega
      refine OKS.same (v := .agg ((cs.toList.drop o).take i.sz).toArray) (run_loadAt_mid (P := P) w b o t _ d (fun j v hv => hc j v ?_) h2 (by rw [h11, ha]) ?_) hk (.agg _ _ ?_)
      · rw [List.getElem?_take] at hv
        split at hv
        · exact hv
        · cases hv
      · rw [h1, hl]; simp [h4]
      · rw [g3]; simpa using hr.take i.sz
    · exact hk.elim
  | false =>
    rw [ha] at hk
    simp only [cond_false] at hk
    split at hk
    · rename_i a l
      obtain ⟨v, hv⟩ : ∃ v, (cs.toList.drop o)[0]? = some v := ⟨_, List.getElem?_eq_getElem (by rw [hr.1]; simp)⟩
      have hcell := hc 0 v hv
      have hag : (isAgg t).run P w = .ok false w := by
        unfold isAgg
        rw [Sem.run_bind, run_underlying h2 w]
        rw [ha] at h11
        cases d <;> simp_all [TypeDesc.isRow]
      refine OKS.same (v := v) ?_ hk (.c _ _ (hr.2 0 v a hv rfl))
      simp only [Nat.add_zero] at hcell
      simp [Instr.loadAt, Instr.sureAddr, loadVar, hag, hcell]
    · exact hk.elim

theorem RepL.ofD {w : World} {C : Cz} {vs : List Value} {xs : List DV} (hl : vs.length = xs.length) (h : ∀ (i : Nat) v x, vs[i]? = some v → xs[i]? = some x → RepD w C.rg v x) : RepL w C vs (xs.map .d) :=
  ⟨by simp [hl], fun i v a h1 h2 => by
    rw [List.getElem?_map] at h2
    cases hx : xs[i]? with
    | none => rw [hx] at h2; cases h2
    | some x => rw [hx] at h2; cases h2; exact .d _ _ (h i v x h1 hx)⟩

/-! load -/
def aLoad (T : Tab) (σ : List AObj) (t : Nat) (x : Val) (K : Val → List AObj → Prop) : Prop :=
  match T.ti t with
  | none => False
  | some i => match x with
    | .c (.ptr o off) => match σ[o]? with
      | some (.var cells) => aCells i (cells.drop off) (fun v => K v σ)
      | some (.frz r cells) => aCells i ((cells.drop off).map .d) (fun v => K v σ)
      | _ => False
    | .c (.d (.rp r cells)) => aCells i (cells.map .d) (fun v => K v σ)
    | _ => False

include HT in
/-- As ok_cells, where only as many are known. -/
theorem ok_cells' (t : Nat) (i : TI) (hi : T.ti t = some i) {w : World} {C : Cz} {σ : List AObj} (hI : Inv w C σ) (b o : Nat) (cs : Array Value) (ty : TypeId) (fz : Nat × Nat)
    (hh : w.heap[b]? = some (.cells cs ty fz)) {as : List AV} (hr : ∀ (j : Nat) a, as[j]? = some a → ∃ v, cs[o + j]? = some v ∧ RepA w C v a) {K : Val → List AObj → Prop} (hk : aCells i as (fun v => K v σ)) :
    OKS P (Instr.loadAt t (.pointer (some ⟨b, o, none⟩))) w C (fun v => K v σ) := by
  obtain ⟨info, d, z, h1, h2, h3, h4, h6, h7, h8, h9, h10, h11, h12⟩ := ti_parts (HT.ti t i hi)
  have hc : ∀ j a, as[j]? = some a → ∃ v, w.cell? ⟨b, o + j, none⟩ = some v ∧ RepA w C v a := fun j a ha => by
    obtain ⟨v, hv, hr⟩ := hr j a ha
    exact ⟨v, by simp [World.cell?, hh, hv], hr⟩
  unfold aCells at hk
  cases ha : i.agg with
  | true =>
    rw [ha] at hk
    simp only [cond_true] at hk
    split at hk
    · rename_i ys hy
      obtain ⟨g1, g2, g3⟩ := takeN_some hy
      have hval : ∀ j, j < i.sz → ∃ v, w.cell? ⟨b, o + j, none⟩ = some v := fun j hj => by
        obtain ⟨v, hv, _⟩ := hc j _ (List.getElem?_eq_getElem (show j < as.length by omega))
        exact ⟨v, hv⟩
      let vs : List Value := (List.range i.sz).map fun j => (w.cell? ⟨b, o + j, none⟩).getD undef
      have hvs : ∀ j v, vs[j]? = some v → j < i.sz ∧ w.cell? ⟨b, o + j, none⟩ = some v := fun j v hv => by
        simp only [vs, List.getElem?_map] at hv
        by_cases hj : j < i.sz
        · rw [List.getElem?_range hj] at hv
          obtain ⟨u, hu⟩ := hval j hj
          simp [hu] at hv
          exact ⟨hj, by rw [hu, hv]⟩
        · rw [List.getElem?_eq_none (by simpa using hj)] at hv; cases hv
      refine OKS.same (v := .agg vs.toArray) (run_loadAt_mid (P := P) w b o t vs d (fun j v hv => (hvs j v hv).2) h2 (by rw [h11, ha]) ?_) hk (.agg _ _ ⟨?_, fun j v a hv ha => ?_⟩)
      · rw [h1]; simp [vs, h4]
      · simp [vs, g1]
      · obtain ⟨hj, hcell⟩ := hvs j v (by simpa using hv)
        rw [g3, List.getElem?_take, if_pos hj] at ha
        obtain ⟨u, hu, hr⟩ := hc j a ha
        rw [hu] at hcell; cases hcell; exact hr
    · exact hk.elim
  | false =>
    rw [ha] at hk
    simp only [cond_false] at hk
    split at hk
    · rename_i a l
      obtain ⟨v, hcell, hrv⟩ := hc 0 a rfl
      have hag : (isAgg t).run P w = .ok false w := by
        unfold isAgg
        rw [Sem.run_bind, run_underlying h2 w]
        rw [ha] at h11
        cases d <;> simp_all [TypeDesc.isRow]
      refine OKS.same (v := v) ?_ hk (.c _ _ hrv)
      simp only [Nat.add_zero] at hcell
      simp [Instr.loadAt, Instr.sureAddr, loadVar, hag, hcell]
    · exact hk.elim

include HT in
theorem ok_loadS {w : World} {C : Cz} {σ : List AObj} (hI : Inv w C σ) {t : Nat} {u : Value} {x : Val} (hx : RepV w C u x) {K : Val → List AObj → Prop} (hk : aLoad T σ t x K) :
    OKS P (Instr.loadAt t u) w C (fun v => K v σ) := by
  unfold aLoad at hk
  split at hk
  · exact hk.elim
  rename_i i hi
  split at hk
  · rename_i o off
    obtain ⟨_, _, hx⟩ | _ := hx
    cases hx with
    | ptr _ _ b e he hr hb =>
    split at hk
    · rename_i cells ho
      obtain ⟨_, b', cs, ty, g1, g2, g3⟩ := hI.ok o _ e ho he
      rw [hb] at g1; cases g1
      exact ok_cells HT t i hi hI b off cs ty (0, 0) g2 (g3.drop off) hk
    · rename_i r cells ho
      obtain ⟨_, b', cs, ty, fz, g1, g2, g3, g4⟩ := hI.ok o _ e ho he
      rw [hb] at g1; cases g1
      refine ok_cells' HT t i hi hI b off cs ty fz g3 (fun j a ha => ?_) hk
      rw [List.getElem?_map, List.getElem?_drop] at ha
      cases hc : cells[off + j]? with
      | none => rw [hc] at ha; cases ha
      | some x =>
        rw [hc] at ha; cases ha
        obtain ⟨v, h1, h2⟩ := g4 _ x hc
        exact ⟨v, h1, .d _ _ h2⟩
    · exact hk.elim
  · rename_i r cells
    obtain ⟨_, _, hx⟩ | _ := hx
    obtain ⟨_, _, hx⟩ | _ := hx
    cases hx with
    | rp _ b o _ cs e fz vs hr hh hcell hrep =>
    refine ok_cells' HT t i hi hI b o cs e fz hh (fun j a ha => ?_) hk
    rw [List.getElem?_map] at ha
    cases hc : cells[j]? with
    | none => rw [hc] at ha; cases ha
    | some x =>
      rw [hc] at ha; cases ha
      exact ⟨vs j, hcell j (List.getElem?_eq_some_iff.1 hc).1, .d _ _ (hrep j x hc)⟩
  · exact hk.elim

include HT in
theorem ok_load {w : World} {C : Cz} {σ : List AObj} (hI : Inv w C σ) {t : Nat} {u : Value} {x : Val} (hx : RepV w C u x) {K : Val → List AObj → Prop} (hk : aLoad T σ t x K) :
    OK1 P (Instr.loadAt t u) w C σ K := (ok_loadS HT hI hx hk).ok1 hI

/-! store -/
def splice {α : Type} : Nat → List α → List α → Option (List α)
  | 0, [], cs => some cs
  | 0, y :: ys, _ :: cs => match splice 0 ys cs with | some r => some (y :: r) | none => none
  | 0, _ :: _, [] => none
  | n + 1, ys, c :: cs => match splice n ys cs with | some r => some (c :: r) | none => none
  | _ + 1, _, [] => none

theorem splice_some {α : Type} : ∀ {n : Nat} {ys cs r : List α}, splice n ys cs = some r → n + ys.length ≤ cs.length ∧ r = cs.take n ++ ys ++ cs.drop (n + ys.length)
  | 0, [], cs, r, h => by simp [splice] at h; simp [h]
  | 0, y :: ys, [], r, h => by simp [splice] at h
  | 0, y :: ys, c :: cs, r, h => by
    simp only [splice] at h
    split at h
    · rename_i r' hr
      obtain ⟨h1, h2⟩ := splice_some hr
      cases h
      simp at h1 h2 ⊢
      exact ⟨h1, h2⟩
    · cases h
  | n + 1, ys, [], r, h => by simp [splice] at h
  | n + 1, ys, c :: cs, r, h => by
    simp only [splice] at h
    split at h
    · rename_i r' hr
      obtain ⟨h1, h2⟩ := splice_some hr
      cases h
      simp only [List.length_cons, List.take_succ_cons, List.cons_append, List.cons.injEq, true_and]
      refine ⟨by omega, ?_⟩
      rw [h2, show n + 1 + ys.length = (n + ys.length) + 1 by omega, List.drop_succ_cons]
    · cases h

def natEq : Nat → Nat → Bool := Nat.beq
theorem natEq_eq {a b : Nat} (h : natEq a b = true) : a = b := Nat.eq_of_beq_eq_true h

def aStore (T : Tab) (σ : List AObj) (t : Nat) (x y : Val) (K : List AObj → Prop) : Prop :=
  match T.ti t with
  | none => False
  | some i => match x, y.cells with
    | .c (.ptr o off), some ys => bif natEq ys.length i.sz then (match σ[o]? with
      | some (.var cells) => match splice off ys cells with
        | some cells' => K (σ.set o (.var cells'))
        | none => False
      | _ => False) else False
    | _, _ => False

theorem RepL.splice {w : World} {C : Cz} {vs us : List Value} {as bs : List AV} (h : RepL w C vs as) (g : RepL w C us bs) (n : Nat) (hn : n + bs.length ≤ as.length) :
    RepL w C (vs.take n ++ us ++ vs.drop (n + us.length)) (as.take n ++ bs ++ as.drop (n + bs.length)) := by
  have l1 := h.1; have l2 := g.1
  refine ⟨by simp; omega, fun i v a hv ha => ?_⟩
  by_cases c1 : i < n
  · rw [List.append_assoc, List.getElem?_append_left (by simp; omega), List.getElem?_take, if_pos c1] at hv ha
    exact h.2 i v a hv ha
  · by_cases c2 : i < n + bs.length
    · rw [List.append_assoc, List.getElem?_append_right (by simp; omega), List.getElem?_append_left (by simp; omega)] at hv ha
      simp only [List.length_take] at hv ha
      rw [show min n vs.length = n by omega] at hv
      rw [show min n as.length = n by omega] at ha
      exact g.2 (i - n) v a hv ha
    · rw [List.getElem?_append_right (by simp; omega), List.getElem?_drop] at hv ha
      simp only [List.length_append, List.length_take] at hv ha
      rw [show n + us.length + (i - (min n vs.length + us.length)) = i by omega] at hv
      rw [show n + bs.length + (i - (min n as.length + bs.length)) = i by omega] at ha
      exact h.2 i v a hv ha

include HT in
theorem ok_store {w : World} {C : Cz} {σ : List AObj} (hI : Inv w C σ) {t : Nat} {u v : Value} {x y : Val} (hx : RepV w C u x) (hy : RepV w C v y) {K : List AObj → Prop} (hk : aStore T σ t x y K) :
    ∃ w' C' σ', (Instr.storeAt t u v).run P w = .ok () w' ∧ K σ' ∧ Inv w' C' σ' ∧ Ext w C σ w' C' σ' := by
  unfold aStore at hk
  split at hk
  · exact hk.elim
  rename_i i hi
  obtain ⟨info, d, z, h1, h2, h3, h4, h6, h7, h8, h9, h10, h11, h12⟩ := ti_parts (HT.ti t i hi)
  split at hk
  · rename_i o off ys hys
    cases hn : natEq ys.length i.sz with
    | false => rw [hn] at hk; exact hk.elim
    | true =>
    rw [hn] at hk
    simp only [cond_true] at hk
    have hlen := natEq_eq hn
    obtain ⟨_, _, hx⟩ | _ := hx
    cases hx with
    | ptr _ _ b e he hr hb =>
    split at hk
    · rename_i cells ho
      split at hk
      · rename_i cells' hsp
        obtain ⟨s1, s2⟩ := splice_some hsp
        obtain ⟨gr, b', cs, ty, g1, g2, g3⟩ := hI.ok o _ e ho he
        rw [hb] at g1; cases g1
        have hyr := cells_rep hy hys
        have hsz : v.cells.size = i.sz := by have := hyr.1; simp at this; omega
        have hl := g3.1
        simp at hl
        have hst := run_storeCells_at P b off ty v.cells.toList 0 cs w g2 (by have := hyr.1; simp at this ⊢; omega) hyr.oneCell
        simp only [Nat.add_zero] at hst
        refine ⟨w.setRow b (cs.toList.take off ++ v.cells.toList ++ cs.toList.drop (off + v.cells.toList.length)).toArray, C.upd o e, _, ?_, hk, ?_⟩
        · simp [Instr.storeAt, Instr.sureAddr, storeVar, sizeOf, typeInfo, h1, h4, hsz, hst]
        · have hold : ∀ b', b' < w.heap.size → e.b ≠ some b' → (w.setRow b (cs.toList.take off ++ v.cells.toList ++ cs.toList.drop (off + v.cells.toList.length)).toArray).heap[b']? = w.heap[b']? :=
            fun b' _ hne => setRow_other w b b' _ (fun e1 => hne (by rw [hb, e1]))
          obtain ⟨u1, u2⟩ := hI.upd (o' := .var cells') (e' := e) ho he rfl (by simp [World.setRow]) (.refl e) hold (fun b' hb' => .inl hb') (fun hc => ⟨gr, b, _, ty, hb, setRow_heap w b cs _ ty (0, 0) g2, by
            have := (g3.mono hc).splice (hyr.mono hc) off s1
            rw [s2]
            simpa using this⟩)
          exact ⟨u2, Ext.upd hI ho he rfl rfl rfl rfl (by simp [World.setRow]) u1 hold (fun b' hb' => .inl hb')⟩
      · exact hk.elim
    · exact hk.elim
  · exact hk.elim

end
end Go.Proofs.YtmaokphbfjpodaaGreatDoor.E

/- The engine, part 5: what is our own becomes data (is frozen); further operations. No conditions. -/
set_option linter.unusedVariables false
set_option linter.unusedSimpArgs false
namespace Go.Proofs.YtmaokphbfjpodaaGreatDoor.E
open Go

theorem repA_d {w : World} {C : Cz} {v : Value} {x : DV} (h : RepA w C v (.d x)) : RepD w C.rg v x := by
  cases h with
  | d _ _ h => exact h

/-! ### Freezing -/
def allD : List AV → Option (List DV)
  | [] => some []
  | .d x :: l => match allD l with | some r => some (x :: r) | none => none
  | _ :: _ => none

theorem allD_some : ∀ {l : List AV} {xs : List DV}, allD l = some xs → l = xs.map .d
  | [], xs, h => by simp [allD] at h; subst h; rfl
  | .d x :: l, xs, h => by
    simp only [allD] at h
    split at h
    · rename_i r hr; cases h; simp [allD_some hr]
    · cases h
  | .ptr _ _ :: l, xs, h => by simp [allD] at h
  | .own _ _ :: l, xs, h => by simp [allD] at h
  | .rowp _ _ _ _ _ :: l, xs, h => by simp [allD] at h
  | .emp :: l, xs, h => by simp [allD] at h
  | .full _ _ _ :: l, xs, h => by simp [allD] at h
  | .mp _ :: l, xs, h => by simp [allD] at h
  | .fn _ _ _ :: l, xs, h => by simp [allD] at h
  | .ifc _ _ :: l, xs, h => by simp [allD] at h
  | .ifa _ _ :: l, xs, h => by simp [allD] at h

def frzPtr (ρ : Nat) (σ : List AObj) (o off : Nat) (K : DV → List AObj → Prop) : Prop :=
  match σ[o]? with
  | some (.var cells) => match allD cells with
    | some ds => bif isW ρ then False else K (.rp ρ (ds.drop off)) (σ.set o (.frz ρ ds))
    | none => False
  | some (.frz r cells) => K (.rp r (cells.drop off)) σ
  | _ => False

/-- What a function has caught becomes data. -/
def frzC (ρ : Nat) : List AObj → List AV → (List DV → List AObj → Prop) → Prop
  | σ, [], K => K [] σ
  | σ, .d x :: l, K => frzC ρ σ l fun xs σ' => K (x :: xs) σ'
  | σ, .ptr o off :: l, K => frzPtr ρ σ o off fun x σ' => frzC ρ σ' l fun xs σ'' => K (x :: xs) σ''
  | _, _ :: _, _ => False
/-- One cell becomes data. n: it is a slice, an element of which has so many cells. -/
def frz1 (ρ : Nat) (σ : List AObj) (a : AV) (n : Option Nat) (K : DV → List AObj → Prop) : Prop :=
  match a with
  | .d .nils => match n with | some sz => bif (Nat.beq ρ 4 && Nat.beq sz 2) then K (.sl 1 sz []) σ else K (.sl ρ sz []) σ | none => K .nils σ
  | .d x => K x σ
  | .emp => match n with | some sz => K (.sl ρ sz []) σ | none => K (.sl ρ 0 []) σ
  | .full r sz rows => K (.sl r sz rows) σ
  | .own o m => match σ[o]? with
    | some (.row e sz rows) => bif rOk ρ sz then (m = rows.length ∧ K (.sl ρ sz rows) (σ.set o .gone)) else False
    | _ => False
  | .ptr o off => frzPtr ρ σ o off K
  | .ifc t (.d x) => K (.ifc t x) σ
  | .ifc t (.ptr o off) => frzPtr ρ σ o off (fun x => K (.ifc t x))
  | .ifa t cells => match allD cells with | some ds => K (.ifa t ds) σ | none => False
  | .fn g first cap => match allD first with | some fs => frzC ρ σ cap fun cs σ' => K (.fnd g fs cs) σ' | none => False
  | _ => False

def frzL (ρ : Nat) (σ : List AObj) : List AV → List (Option Nat) → (List DV → List AObj → Prop) → Prop
  | [], _, K => K [] σ
  | a :: as, ns, K => frz1 ρ σ a ns.head?.join (fun x σ' => frzL ρ σ' as ns.tail (fun xs σ'' => K (x :: xs) σ''))

theorem bif_and {b : Bool} {p : Prop} (h : bif b then p else False) : b = true ∧ p := by
  cases b with
  | true => exact ⟨rfl, h⟩
  | false => exact h.elim
theorem frz_row {w : World} {C : Cz} {σ : List AObj} (hI : Inv w C σ) (ρ : Nat) {o e sz : Nat} (hρ : rOk ρ sz = true) {rows : List (List DV)} (ho : σ[o]? = some (.row e sz rows)) {v : Value} (hv : RepA w C v (.own o rows.length)) :
    ∃ C', CzLe w C w C' ∧ Inv w C' (σ.set o .gone) ∧ Ext w C σ w C' (σ.set o .gone) ∧ RepD w C'.rg v (.sl ρ sz rows) := by
  cases hv with
  | own _ _ en he hr hn A c hval =>
  obtain ⟨g1, g2, g3, g4, g5, xs, g6, g7⟩ := hI.ok o _ en ho he
  obtain ⟨k1, k2, k3⟩ := hI.frz (o' := .gone) ho he rfl ρ rfl (fun _ => trivial)
  have hval := hval g2.symm
  refine ⟨_, k1, k2, k3, ?_⟩
  rcases g6.2 with ⟨h1, h2⟩ | ⟨g, cap, cur, h1, _, h3, h4, h5, h6, h7⟩
  · have : rows = [] := List.eq_nil_of_length_eq_zero h2
    subst this
    exact .sl0 A ρ sz c
  · rw [h1] at hval
    cases hval
    have hb : en.b = some g := by rw [g3, h1]; rfl
    have hlen : ∀ j i, j < rows.length → i < sz → j * sz + i < rows.length * sz := fun j i hj hi => by
      have : j * sz + sz ≤ rows.length * sz := by rw [← Nat.succ_mul]; exact Nat.mul_le_mul_right _ hj
      omega
    have hcell : ∀ j i, j < rows.length → i < sz → cur[j * sz + i]? = some (xs.getD (j * sz + i) undef) := fun j i hj hi => by
      have := hlen j i hj hi
      have hx : xs[j * sz + i]? = some (xs.getD (j * sz + i) undef) := by
        have hl := g6.1
        rw [List.getD_eq_getElem?_getD, List.getElem?_eq_getElem (by omega)]; rfl
      rw [← hx, ← h7, List.getElem?_take, if_pos this, Array.getElem?_toList]
    refine .sl ρ sz g 0 rows.length _ rows cur e (0, 0) (fun j i => xs.getD (j * sz + i) undef) ⟨⟨ρ, by simp [Cz.frz, hb], rOk_w hρ, .inl rfl⟩, fun hr => ⟨rfl, rfl, rOk_sz hρ hr⟩⟩ h3 rfl h4 g5 (fun j i hj hi => by rw [Nat.zero_add]; exact hcell j i hj hi) (fun j i row x hj hi => ?_)
    obtain ⟨u, hu, hru⟩ := g7 j i row x hj hi
    have : xs.getD (j * sz + i) undef = u := by rw [List.getD_eq_getElem?_getD, hu]; rfl
    rw [this]
    exact hru.mono k1.rg

theorem frzPtr_ok {w : World} {C : Cz} {σ : List AObj} (hI : Inv w C σ) (ρ : Nat) {o off : Nat} {v : Value} (hv : RepA w C v (.ptr o off)) {K : DV → List AObj → Prop} (hk : frzPtr ρ σ o off K) :
    ∃ C' x σ', K x σ' ∧ CzLe w C w C' ∧ Inv w C' σ' ∧ Ext w C σ w C' σ' ∧ RepD w C'.rg v x := by
  unfold frzPtr at hk
  cases hv with
  | ptr _ _ b e he hr hb =>
  split at hk
  · rename_i cells ho
    split at hk
    · rename_i ds hds
      obtain ⟨hρ, hk⟩ : isW ρ = false ∧ K (.rp ρ (ds.drop off)) (σ.set o (.frz ρ ds)) := by
        cases hw : isW ρ with
        | false => rw [hw] at hk; exact ⟨rfl, hk⟩
        | true => rw [hw] at hk; exact hk.elim
      obtain ⟨g1, b', cs, ty, g2, g3, g4⟩ := hI.ok o _ e ho he
      rw [hb] at g2; cases g2
      have hcells := allD_some hds
      subst hcells
      have hrep : ∀ (i : Nat) x, ds[i]? = some x → ∃ v, cs[i]? = some v ∧ RepD w C.rg v x := fun i x hx => by
        have hlt : i < cs.toList.length := by rw [g4.1]; simp; exact (List.getElem?_eq_some_iff.1 hx).1
        have := g4.2 i _ (.d x) (List.getElem?_eq_getElem hlt) (by rw [List.getElem?_map, hx]; rfl)
        exact ⟨_, by rw [← Array.getElem?_toList]; exact List.getElem?_eq_getElem hlt, repA_d this⟩
      obtain ⟨k1, k2, k3⟩ := hI.frz (o' := .frz ρ ds) ho he rfl ρ rfl (fun hc => ⟨hr, b, cs, ty, (0, 0), hb, ⟨by simp [Cz.frz, hb], hρ⟩, g3, fun i x hx => by
        obtain ⟨v, h1, h2⟩ := hrep i x hx
        exact ⟨v, h1, h2.mono hc.rg⟩⟩)
      refine ⟨_, _, _, hk, k1, k2, k3, .rp ρ b off _ cs ty (0, 0) (fun i => (cs[off + i]?).getD undef) ⟨ρ, by simp [Cz.frz, hb], hρ, .inl rfl⟩ g3 (fun i hi => ?_) (fun i x hx => ?_)⟩
      · simp only [List.length_drop] at hi
        obtain ⟨v, h1, _⟩ := hrep (off + i) _ (List.getElem?_eq_getElem (show off + i < ds.length by omega))
        rw [h1]; rfl
      · rw [List.getElem?_drop] at hx
        obtain ⟨v, h1, h2⟩ := hrep (off + i) x hx
        rw [h1]; exact h2.mono k1.rg
    · exact hk.elim
  · rename_i r cells ho
    obtain ⟨g1, b', cs, ty, fz, g2, g3, g4, g5⟩ := hI.ok o _ e ho he
    rw [hb] at g2; cases g2
    refine ⟨C, _, _, hk, .refl w C, hI, .refl w C σ, .rp r b off _ cs ty fz (fun i => (cs[off + i]?).getD undef) ⟨r, g3.1, g3.2, .inl rfl⟩ g4 (fun i hi => ?_) (fun i x hx => ?_)⟩
    · simp only [List.length_drop] at hi
      obtain ⟨v, h1, _⟩ := g5 (off + i) _ (List.getElem?_eq_getElem (show off + i < cells.length by omega))
      rw [h1]; rfl
    · rw [List.getElem?_drop] at hx
      obtain ⟨v, h1, h2⟩ := g5 (off + i) x hx
      rw [h1]; exact h2
  · exact hk.elim

theorem repD_nils {w : World} {rg : Nat → Option Nat} {v : Value} (h : RepD w rg v .nils) (r sz : Nat) : RepD w rg v (.sl r sz []) := by
  cases h; exact .sl0 none r sz 0

theorem allD_cells {w : World} {C : Cz} {vs : Array Value} {as : List AV} {ds : List DV} (h : RepL w C vs.toList as) (hd : allD as = some ds) (i : Nat) :
    (i < ds.length → vs[i]? = some ((vs[i]?).getD undef)) ∧ ∀ x, ds[i]? = some x → RepD w C.rg ((vs[i]?).getD undef) x := by
  have := allD_some hd
  subst this
  have hl := h.1
  simp at hl
  refine ⟨fun hi => by rw [Array.getElem?_eq_getElem (by omega)]; rfl, fun x hx => ?_⟩
  have hi := (List.getElem?_eq_some_iff.1 hx).1
  have hv : vs[i]? = some (vs[i]'(by omega)) := Array.getElem?_eq_getElem _
  have := h.2 i _ (.d x) (by rw [Array.getElem?_toList]; exact hv) (by rw [List.getElem?_map, hx]; rfl)
  rw [hv]
  exact repA_d this

theorem repL_cons {w : World} {C : Cz} {v : Value} {vs : List Value} {a : AV} {as : List AV} (h : RepL w C (v :: vs) (a :: as)) : RepA w C v a ∧ RepL w C vs as :=
  ⟨h.2 0 v a rfl rfl, by have := h.1; simpa using this, fun i u b h1 h2 => h.2 (i + 1) u b (by simpa using h1) (by simpa using h2)⟩
theorem frzC_ok {w : World} (ρ : Nat) : ∀ {as : List AV} {C : Cz} {σ : List AObj} (hI : Inv w C σ) {vs : List Value} (hv : RepL w C vs as) {K : List DV → List AObj → Prop} (hk : frzC ρ σ as K),
    ∃ C' xs σ', K xs σ' ∧ CzLe w C w C' ∧ Inv w C' σ' ∧ Ext w C σ w C' σ' ∧ vs.length = xs.length ∧ ∀ (i : Nat) v x, vs[i]? = some v → xs[i]? = some x → RepD w C'.rg v x
  | [], C, σ, hI, vs, hv, K, hk => ⟨C, [], σ, hk, .refl w C, hI, .refl w C σ, hv.1, fun i v x _ h => by simp at h⟩
  | a :: as, C, σ, hI, [], hv, K, hk => by have := hv.1; simp at this
  | a :: as, C, σ, hI, v :: vs, hv, K, hk => by
    obtain ⟨hv0, hv1⟩ := repL_cons hv
    unfold frzC at hk
    split at hk
    · rename_i heq; cases heq
    · rename_i x l heq
      cases heq
      obtain ⟨C2, xs, σ2, hk2, l2, I2, E2, hl, r2⟩ := frzC_ok ρ hI hv1 hk
      refine ⟨C2, x :: xs, σ2, hk2, l2, I2, E2, by simp [hl], fun i u y h1 h2 => ?_⟩
      cases i with
      | zero => simp at h1 h2; subst h1; subst h2; exact (repA_d hv0).mono l2.rg
      | succ i => simp at h1 h2; exact r2 i u y h1 h2
    · rename_i o off l heq
      cases heq
      obtain ⟨C1, x, σ1, hk1, l1, I1, E1, r1⟩ := frzPtr_ok hI ρ hv0 hk
      obtain ⟨C2, xs, σ2, hk2, l2, I2, E2, hl, r2⟩ := frzC_ok ρ I1 (vs := vs) ⟨hv1.1, fun i u b h1 h2 => (hv1.2 i u b h1 h2).mono l1⟩ hk1
      refine ⟨C2, x :: xs, σ2, hk2, l1.trans l2, I2, E1.trans E2, by simp [hl], fun i u y h1 h2 => ?_⟩
      cases i with
      | zero => simp at h1 h2; subst h1; subst h2; exact r1.mono l2.rg
      | succ i => simp at h1 h2; exact r2 i u y h1 h2
    · exact hk.elim
theorem frz1_ok {w : World} {C : Cz} {σ : List AObj} (hI : Inv w C σ) (ρ : Nat) {a : AV} {n : Option Nat} {v : Value} (hv : RepA w C v a) {K : DV → List AObj → Prop} (hk : frz1 ρ σ a n K) :
    ∃ C' x σ', K x σ' ∧ CzLe w C w C' ∧ Inv w C' σ' ∧ Ext w C σ w C' σ' ∧ RepD w C'.rg v x := by
  unfold frz1 at hk
  split at hk
  · cases hv with
    | d _ _ hv =>
    split at hk
    · rename_i sz
      cases hc : (Nat.beq ρ 4 && Nat.beq sz 2) with
      | true => rw [hc] at hk; exact ⟨C, .sl 1 sz [], σ, hk, .refl w C, hI, .refl w C σ, repD_nils hv _ _⟩
      | false => rw [hc] at hk; exact ⟨C, .sl ρ sz [], σ, hk, .refl w C, hI, .refl w C σ, repD_nils hv _ _⟩
    · exact ⟨C, _, σ, hk, .refl w C, hI, .refl w C σ, hv⟩
  · cases hv with
    | d _ _ hv => exact ⟨C, _, σ, hk, .refl w C, hI, .refl w C σ, hv⟩
  · cases hv with
    | emp A =>
    split at hk
    · exact ⟨C, _, σ, hk, .refl w C, hI, .refl w C σ, .sl0 A _ _ 0⟩
    · exact ⟨C, _, σ, hk, .refl w C, hI, .refl w C σ, .sl0 A _ _ 0⟩
  · cases hv with
    | full A n r sz rows hn h => exact ⟨C, _, σ, hk, .refl w C, hI, .refl w C σ, h⟩
  · split at hk
    · rename_i ho
      obtain ⟨hρ, hm, hk2⟩ := bif_and hk
      subst hm
      obtain ⟨C', h1, h2, h3, h4⟩ := frz_row hI ρ hρ ho hv
      exact ⟨C', _, _, hk2, h1, h2, h3, h4⟩
    · exact hk.elim
  · exact frzPtr_ok hI ρ hv hk
  · cases hv with
    | ifc t v x h =>
    cases h with
    | d _ _ h => exact ⟨C, _, σ, hk, .refl w C, hI, .refl w C σ, .ifc _ v _ h⟩
  · cases hv with
    | ifc t v x h =>
    obtain ⟨C', x, σ', h1, h2, h3, h4, h5⟩ := frzPtr_ok hI ρ h hk
    exact ⟨C', _, σ', h1, h2, h3, h4, .ifc _ v _ h5⟩
  · split at hk
    · rename_i ds hds
      cases hv with
      | ifa t arr cells vs hs hcell hrep =>
      have hr : RepL w C arr.toList _ := ⟨by simpa using hs, fun i u a h1 h2 => by
        have hi := (List.getElem?_eq_some_iff.1 h2).1
        have := hcell i hi
        rw [Array.getElem?_toList, this] at h1
        cases h1
        exact hrep i a h2⟩
      have hds' := allD_some hds
      refine ⟨C, _, σ, hk, .refl w C, hI, .refl w C σ, .ifa _ arr ds (fun i => (arr[i]?).getD undef) (by rw [hs, hds']; simp) (fun i hi => (allD_cells hr hds i).1 hi) (fun i x hx => (allD_cells hr hds i).2 x hx)⟩
    · exact hk.elim
  · split at hk
    · rename_i ds hds
      cases hv with
      | fn g fs cs _ _ vf vc h1 h2 g1 g2 r1 r2 =>
      have hf : RepL w C fs.toList _ := ⟨by simpa using h1, fun i u a q1 q2 => by
        have := g1 i (List.getElem?_eq_some_iff.1 q2).1
        rw [Array.getElem?_toList, this] at q1; cases q1
        exact r1 i a q2⟩
      have hc : RepL w C cs.toList _ := ⟨by simpa using h2, fun i u a q1 q2 => by
        have := g2 i (List.getElem?_eq_some_iff.1 q2).1
        rw [Array.getElem?_toList, this] at q1; cases q1
        exact r2 i a q2⟩
      obtain ⟨C', xs, σ', k1, k2, k3, k4, k5, k6⟩ := frzC_ok ρ hI hc hk
      have hds' := allD_some hds
      simp only [Array.length_toList] at k5
      refine ⟨C', _, σ', k1, k2, k3, k4, .fnd _ fs cs ds xs (fun i => (fs[i]?).getD undef) (fun i => (cs[i]?).getD undef) (by rw [h1, hds']; simp) k5 (fun i hi => (allD_cells hf hds i).1 hi) (fun i hi => by
        rw [Array.getElem?_eq_getElem (by omega)]; rfl) (fun i x hx => ((allD_cells hf hds i).2 x hx).mono k2.rg) (fun i x hx => ?_)⟩
      have hi := (List.getElem?_eq_some_iff.1 hx).1
      have hv : cs[i]? = some (cs[i]'(by omega)) := Array.getElem?_eq_getElem _
      rw [hv]
      exact k6 i _ x (by rw [Array.getElem?_toList]; exact hv) hx
    · exact hk.elim
  · exact hk.elim

theorem frzL_ok {w : World} (ρ : Nat) : ∀ {as : List AV} {ns : List (Option Nat)} {C : Cz} {σ : List AObj} (hI : Inv w C σ) {vs : List Value} (hv : RepL w C vs as) {K : List DV → List AObj → Prop} (hk : frzL ρ σ as ns K),
    ∃ C' xs σ', K xs σ' ∧ CzLe w C w C' ∧ Inv w C' σ' ∧ Ext w C σ w C' σ' ∧ vs.length = xs.length ∧ ∀ (i : Nat) v x, vs[i]? = some v → xs[i]? = some x → RepD w C'.rg v x
  | [], ns, C, σ, hI, vs, hv, K, hk => ⟨C, [], σ, hk, .refl w C, hI, .refl w C σ, hv.1, fun i v x _ h => by simp at h⟩
  | a :: as, ns, C, σ, hI, [], hv, K, hk => by have := hv.1; simp at this
  | a :: as, ns, C, σ, hI, v :: vs, hv, K, hk => by
    have hv0 : RepA w C v a := hv.2 0 v a rfl rfl
    obtain ⟨C1, x, σ1, hk1, l1, I1, E1, r1⟩ := frz1_ok hI ρ hv0 hk
    have hv1 : RepL w C1 vs as := ⟨by have := hv.1; simpa using this, fun i u b h1 h2 => (hv.2 (i + 1) u b (by simpa using h1) (by simpa using h2)).mono l1⟩
    obtain ⟨C2, xs, σ2, hk2, l2, I2, E2, hl, r2⟩ := frzL_ok ρ I1 hv1 hk1
    refine ⟨C2, x :: xs, σ2, hk2, l1.trans l2, I2, E1.trans E2, by simp [hl], fun i u y h1 h2 => ?_⟩
    cases i with
    | zero => simp at h1 h2; subst h1; subst h2; exact r1.mono l2.rg
    | succ i => simp at h1 h2; exact r2 i u y h1 h2

end Go.Proofs.YtmaokphbfjpodaaGreatDoor.E

/- The engine, part 6: further operations (no calls): what they do to data, and that the machine does the same. No conditions. -/
set_option linter.unusedVariables false
set_option linter.unusedSimpArgs false
namespace Go.Proofs.YtmaokphbfjpodaaGreatDoor.E
open Go

section
variable {P : Program} {T : Tab} (HT : TabOk P T)

/-! ### A new variable -/
def aAlloc (T : Tab) (σ : List AObj) (t : Nat) (K : Val → List AObj → Prop) : Prop :=
  match T.ti t with
  | some i => K (.c (.ptr σ.length 0)) (σ ++ [.var (i.zero.map .d)])
  | none => False

include HT in
theorem ok_alloc {w : World} {C : Cz} {σ : List AObj} (hI : Inv w C σ) {t : Nat} {K : Val → List AObj → Prop} (hk : aAlloc T σ t K) :
    OK1 P (Instr.alloc t true (.tuple #[])) w C σ K := by
  unfold aAlloc at hk
  split at hk
  · rename_i i hi
    obtain ⟨info, d, z, h1, h2, h3, h4, h6, h7, h8, h9, h10, h11, h12⟩ := ti_parts (HT.ti t i hi)
    obtain ⟨C', g1, g2, g3⟩ := step_var hI z.cells t _ (allZ_rep (w := w) (C := C) h9)
    refine ⟨.pointer (some ⟨w.heap.size, 0, none⟩), _, C', _, _, ?_, hk, g1, g2, .c _ _ g3⟩
    simp [Instr.alloc, zeroValue, typeInfo, h1, h8, newVar, newRow]
  · exact hk.elim

def aBox (σ : List AObj) (x : Val) (K : Val → List AObj → Prop) : Prop :=
  match x.cells with
  | some cs => K (.c (.ptr σ.length 0)) (σ ++ [.var cs])
  | none => False

theorem ok_box {w : World} {C : Cz} {σ : List AObj} (hI : Inv w C σ) {t : Nat} {u : Value} {x : Val} (hx : RepV w C u x) {K : Val → List AObj → Prop} (hk : aBox σ x K) :
    OK1 P (Instr.box t u) w C σ K := by
  unfold aBox at hk
  split at hk
  · rename_i cs hc
    obtain ⟨C', g1, g2, g3⟩ := step_var hI u.cells t _ (cells_rep hx hc)
    refine ⟨.pointer (some ⟨w.heap.size, 0, none⟩), _, C', _, _, ?_, hk, g1, g2, .c _ _ g3⟩
    simp [Instr.box, newVar, newRow]
  · exact hk.elim

/-! ### Structs and arrays by value -/
theorem fill_step (off : Nat) : ∀ (ys : List Value) (k : Nat) (cs : Array Value), off + k + ys.length ≤ cs.size →
    ((ys.zipIdx k).foldl (fun cs (c, j) => cs.setIfInBounds (off + j) c) cs).toList = cs.toList.take (off + k) ++ ys ++ cs.toList.drop (off + k + ys.length)
  | [], k, cs, _ => by simp
  | y :: ys, k, cs, h => by
    simp only [List.length_cons] at h
    simp only [List.zipIdx_cons, List.foldl_cons]
    rw [fill_step off ys (k + 1) (cs.setIfInBounds (off + k) y) (by simp; omega)]
    have := list_seg_step cs.toList (off + k) y ys (by simp; omega)
    simpa [Array.toList_setIfInBounds, Nat.add_assoc] using this

def aFill (T : Tab) (place : Nat → Option (Nat × Nat)) : List (Nat × Val) → List AV → (List AV → Prop) → Prop
  | [], cells, K => K cells
  | (f, x) :: r, cells, K => match place f, x.cells with
    | some (off, sz), some ys => bif natEq ys.length sz then (match splice off ys cells with
      | some cells' => aFill T place r cells' K
      | none => False) else False
    | _, _ => False

/-- v has the cells that x tells. -/
def RepK (w : World) (C : Cz) (v : Value) (x : Val) : Prop := ∀ cs, x.cells = some cs → RepL w C v.cells.toList cs
theorem RepV.k {w : World} {C : Cz} {v : Value} {x : Val} (h : RepV w C v x) : RepK w C v x := fun _ hx => cells_rep h hx

theorem ok_fill {w : World} {C : Cz} (place place' : Nat → Option (Nat × Nat)) (hp : ∀ f y, place f = some y → place' f = some y) :
    ∀ (parts : List (Nat × Value)) (ps : List (Nat × Val)), parts.length = ps.length → (∀ (i : Nat) p q, parts[i]? = some p → ps[i]? = some q → p.1 = q.1 ∧ RepK w C p.2 q.2) →
    ∀ (arr : Array Value) (cells : List AV), RepL w C arr.toList cells → ∀ (K : List AV → Prop), aFill T place ps cells K →
    ∃ arr' cells', Instr.fill place' arr parts = some arr' ∧ K cells' ∧ RepL w C arr'.toList cells'
  | [], [], _, _, arr, cells, hr, K, hk => ⟨arr, cells, rfl, hk, hr⟩
  | [], _ :: _, h, _, _, _, _, _, _ => by simp at h
  | _ :: _, [], h, _, _, _, _, _, _ => by simp at h
  | (i, v) :: parts, (f, x) :: ps, hl, hrep, arr, cells, hr, K, hk => by
    have h0 := hrep 0 _ _ rfl rfl
    obtain ⟨rfl, hv⟩ : i = f ∧ RepK w C v x := h0
    simp only [aFill] at hk
    split at hk
    · rename_i off sz ys hpl hys
      cases hn : natEq ys.length sz with
      | false => rw [hn] at hk; exact hk.elim
      | true =>
      rw [hn] at hk
      simp only [cond_true] at hk
      split at hk
      · rename_i cells' hsp
        obtain ⟨s1, s2⟩ := splice_some hsp
        have hyr := hv ys hys
        have hyl := hyr.1
        simp at hyl
        have hal := hr.1
        simp at hal
        have hsz : v.cells.size = sz := by have := natEq_eq hn; omega
        have hf := fill_step off v.cells.toList 0 arr (by simp; omega)
        simp only [Nat.add_zero] at hf
        have hr' : RepL w C (v.cells.zipIdx.foldl (fun cs (c, j) => cs.setIfInBounds (off + j) c) arr).toList cells' := by
          rw [← Array.foldl_toList, Array.toList_zipIdx, hf, s2]
          exact hr.splice hyr off s1
        obtain ⟨arr', cells'', g1, g2, g3⟩ := ok_fill place place' hp parts ps (by simpa using hl) (fun i p q h1 h2 => hrep (i + 1) p q (by simpa using h1) (by simpa using h2)) _ cells' hr' K hk
        refine ⟨arr', cells'', ?_, g2, g3⟩
        rw [Instr.fill, hp _ _ hpl]
        simp only
        rw [if_neg (by simp; omega)]
        exact g1
      · exact hk.elim
    · exact hk.elim

/-- The place and size of a struct's fields. -/
def fplace (T : Tab) (i : TI) (f : Nat) : Option (Nat × Nat) := match i.flds[f]? with
  | some (off, ty) => match T.ti ty with | some j => some (off, j.sz) | none => none
  | none => none

def aBuild (T : Tab) (t : Nat) (ps : List (Nat × Val)) (K : Val → Prop) : Prop :=
  match T.ti t with
  | some i => match i.k with
    | .strct => aFill T (fplace T i) ps (i.zero.map .d) (fun cs => K (.agg cs))
    | .arr n e => match T.ti e with
      | some j => aFill T (fun k => some (k * j.sz, j.sz)) ps (i.zero.map .d) (fun cs => K (.agg cs))
      | none => False
    | _ => False
  | none => False

theorem mapM_some {α β : Type} (g : α → Option β) : ∀ (l : List α), (∀ x, x ∈ l → (g x).isSome = true) → ∃ r, l.mapM g = some r ∧ ∀ (k : Nat) x, l[k]? = some x → r[k]? = g x
  | [], _ => ⟨[], by simp, fun k x h => by simp at h⟩
  | x :: l, h => by
    obtain ⟨r, h1, h2⟩ := mapM_some g l (fun y hy => h y (by simp [hy]))
    obtain ⟨y, hy⟩ := Option.isSome_iff_exists.1 (h x (by simp))
    refine ⟨y :: r, by simp [hy, h1], fun k z hz => ?_⟩
    cases k with
    | zero => simp at hz ⊢; subst hz; exact hy.symm
    | succ k => simp at hz ⊢; exact h2 k z hz

theorem kind_strct {d : TypeDesc} (h : kindOk .strct d = true) : ∃ fs, d = .struct fs := by
  cases d <;> first | (cases h; done) | exact ⟨_, rfl⟩
theorem kind_arr {n e : Nat} {d : TypeDesc} (h : kindOk (.arr n e) d = true) : d = .array n e := by
  cases d <;> first | (cases h; done) | (simp [kindOk] at h; obtain ⟨rfl, rfl⟩ := h; rfl)
theorem kind_sl {e : Nat} {d : TypeDesc} (h : kindOk (.sl e) d = true) : d = .slice e := by
  cases d <;> first | (cases h; done) | (simp [kindOk] at h; subst h; rfl)

/-- Pairs of numbers and values, as pairs of numbers and data. -/
def RepP (w : World) (C : Cz) (parts : List (Nat × Value)) (ps : List (Nat × Val)) : Prop :=
  parts.length = ps.length ∧ ∀ (i : Nat) p q, parts[i]? = some p → ps[i]? = some q → p.1 = q.1 ∧ RepK w C p.2 q.2

include HT in
theorem ok_build {w : World} {C : Cz} {σ : List AObj} (hI : Inv w C σ) {t : Nat} {parts : Array (Nat × Value)} {ps : List (Nat × Val)} (hp : RepP w C parts.toList ps) {K : Val → List AObj → Prop}
    (hk : aBuild T t ps (fun x => K x σ)) : OK1 P (Instr.build t parts) w C σ K := by
  unfold aBuild at hk
  split at hk
  · rename_i i hi
    obtain ⟨info, d, z, h1, h2, h3, h4, h6, h7, h8, h9, h10, h11, h12⟩ := ti_parts (HT.ti t i hi)
    split at hk
    · rename_i hik
      rw [hik] at h3
      obtain ⟨fs, rfl⟩ := kind_strct h3
      obtain ⟨f1, f2⟩ := h7 fs hik rfl
      have hall : ∀ x, x ∈ fs.toList → ((P.info? x.type).map fun j => (x.offset, j.size)).isSome = true := fun x hx => by
        obtain ⟨k, hk⟩ := List.getElem?_of_mem hx
        have hlt : k < i.flds.length := by rw [f2]; simpa using (List.getElem?_eq_some_iff.1 hk).1
        obtain ⟨fd, j, g1, g2, g3, g4, g5⟩ := fldsOk_get i.flds 0 f1 k i.flds[k].1 i.flds[k].2 (by rw [List.getElem?_eq_getElem hlt])
        simp only [Nat.zero_add] at g1
        rw [Array.getElem?_toList, g1] at hk; cases hk
        rw [g3, g4]; rfl
      obtain ⟨places, hpl, hpl2⟩ := mapM_some (fun f : Field => (P.info? f.type).map fun j => (f.offset, j.size)) fs.toList hall
      have hplace : ∀ f y, fplace T i f = some y → (places.toArray[f]?) = some y := fun f y hy => by
        unfold fplace at hy
        split at hy
        · rename_i off ty hfl
          split at hy
          · rename_i j hj
            cases hy
            obtain ⟨fd, jj, g1, g2, g3, g4, g5⟩ := fldsOk_get i.flds 0 f1 f off ty hfl
            simp only [Nat.zero_add] at g1
            obtain ⟨info', _, _, k1, _, _, k4, _⟩ := ti_parts (HT.ti ty j hj)
            have := hpl2 f fd (by rw [Array.getElem?_toList]; exact g1)
            simp only [List.getElem?_toArray]
            rw [this, g3, k1, g2]
            simp [k4]
          · cases hy
        · cases hy
      obtain ⟨arr', cells', q1, q2, q3⟩ := ok_fill (T := T) (fplace T i) (fun x => places.toArray[x]?) hplace parts.toList ps hp.1 hp.2 z.cells (i.zero.map .d) (allZ_rep h9) _ hk
      refine OK1.same hI (v := .agg arr') (run_build w t parts arr' ?_) q2 (.agg _ _ q3)
      unfold Program.built
      rw [h1, h2]
      simp only [h8, hpl]
      exact q1
    · rename_i n e hik
      rw [hik] at h3
      have := kind_arr h3
      subst this
      split at hk
      · rename_i j hj
        obtain ⟨info', _, _, k1, _, _, k4, _⟩ := ti_parts (HT.ti e j hj)
        obtain ⟨arr', cells', q1, q2, q3⟩ := ok_fill (T := T) (fun k => some (k * j.sz, j.sz)) (fun k => some (k * info'.size, info'.size)) (fun f y hy => by rw [k4]; exact hy) parts.toList ps hp.1 hp.2 z.cells (i.zero.map .d) (allZ_rep h9) _ hk
        refine OK1.same hI (v := .agg arr') (run_build w t parts arr' ?_) q2 (.agg _ _ q3)
        unfold Program.built
        rw [h1, h2]
        simp only [h8, k1]
        exact q1
      · exact hk.elim
    · exact hk.elim
  · exact hk.elim

/-! ### A slice of what is told -/
def zcells (j : TI) (n : Nat) : List AV := (List.range n).map fun k => .d (j.zero.getD (k % j.sz) .nilp)

def chunk {α : Type} (sz : Nat) : Nat → List α → Option (List (List α))
  | 0, [] => some []
  | 0, _ :: _ => none
  | n + 1, l => match takeN sz l with
    | some r => match chunk sz n (l.drop sz) with | some rs => some (r :: rs) | none => none
    | none => none

theorem chunk_some {α : Type} {sz : Nat} : ∀ {n : Nat} {l : List α} {rs : List (List α)}, chunk sz n l = some rs → rs.length = n ∧ l.length = n * sz ∧ (∀ r, r ∈ rs → r.length = sz) ∧
    ∀ (j i : Nat) (r : List α) (x : α), rs[j]? = some r → r[i]? = some x → l[j * sz + i]? = some x
  | 0, [], rs, h => by simp [chunk] at h; subst h; simp
  | 0, _ :: _, rs, h => by simp [chunk] at h
  | n + 1, l, rs, h => by
    simp only [chunk] at h
    split at h
    · rename_i r hr
      split at h
      · rename_i rs' hrs
        cases h
        obtain ⟨t1, t2, t3⟩ := takeN_some hr
        obtain ⟨c1, c2, c3, c4⟩ := chunk_some hrs
        simp only [List.length_drop] at c2
        refine ⟨by simp [c1], by rw [Nat.succ_mul]; omega, fun x hx => ?_, fun j i r' x h1 h2 => ?_⟩
        · rcases List.mem_cons.1 hx with rfl | hx
          · exact t1
          · exact c3 x hx
        · cases j with
          | zero =>
            simp at h1; subst h1
            rw [t3, List.getElem?_take] at h2
            split at h2
            · simpa using h2
            · cases h2
          | succ j =>
            simp at h1
            have := c4 j i r' x h1 h2
            rw [List.getElem?_drop] at this
            rw [Nat.succ_mul, show j * sz + sz + i = sz + (j * sz + i) by omega]
            exact this
      · cases h
    · cases h

/-- The parts are frozen, one behind the other. -/
def aParts (ρ : Nat) (j : TI) : List (Nat × Val) → List AObj → (List (Nat × Val) → List AObj → Prop) → Prop
  | [], σ, K => K [] σ
  | (f, x) :: r, σ, K => match x.cells with
    | some ys => frzL ρ σ ys j.nrm (fun ds σ' => aParts ρ j r σ' (fun qs σ'' => K ((f, .agg (ds.map .d)) :: qs) σ''))
    | none => False

theorem aParts_ok {w : World} (ρ : Nat) (j : TI) : ∀ (ps : List (Nat × Val)) {C : Cz} {σ : List AObj} (hI : Inv w C σ) (parts : List (Nat × Value)), RepP w C parts ps → ∀ {K : List (Nat × Val) → List AObj → Prop}, aParts ρ j ps σ K →
    ∃ C' qs σ', K qs σ' ∧ CzLe w C w C' ∧ Inv w C' σ' ∧ Ext w C σ w C' σ' ∧ RepP w C' parts qs
  | [], C, σ, hI, parts, hp, K, hk => ⟨C, [], σ, hk, .refl w C, hI, .refl w C σ, hp⟩
  | (f, x) :: ps, C, σ, hI, [], hp, K, hk => by have := hp.1; simp at this
  | (f, x) :: ps, C, σ, hI, (i, v) :: parts, hp, K, hk => by
    have h0 := hp.2 0 _ _ rfl rfl
    obtain ⟨rfl, hv⟩ : i = f ∧ RepK w C v x := h0
    simp only [aParts] at hk
    split at hk
    · rename_i ys hys
      obtain ⟨C1, ds, σ1, k1, l1, I1, E1, n1, r1⟩ := frzL_ok ρ hI (hv ys hys) hk
      have hp1 : RepP w C1 parts ps := ⟨by have := hp.1; simpa using this, fun k p q h1 h2 => by
        obtain ⟨g1, g2⟩ := hp.2 (k + 1) p q (by simpa using h1) (by simpa using h2)
        exact ⟨g1, fun cs hcs => (g2 cs hcs).mono l1⟩⟩
      obtain ⟨C2, qs, σ2, k2, l2, I2, E2, p2⟩ := aParts_ok ρ j ps I1 parts hp1 k1
      refine ⟨C2, _, σ2, k2, l1.trans l2, I2, E1.trans E2, by have := p2.1; simpa using this, fun k p q h1 h2 => ?_⟩
      cases k with
      | zero =>
        simp at h1 h2; subst h1; subst h2
        refine ⟨rfl, fun cs hcs => ?_⟩
        simp [Val.cells] at hcs; subst hcs
        exact RepL.ofD n1 (fun k u y h1 h2 => (r1 k u y h1 h2).mono l2.rg)
      | succ k => simp at h1 h2; exact p2.2 k p q h1 h2
    · exact hk.elim

def aBuildSlice (T : Tab) (ρ : Nat) (σ : List AObj) (t len : Nat) (ps : List (Nat × Val)) (K : Val → List AObj → Prop) : Prop :=
  match T.ti t with
  | some i => match i.k with
    | .sl e => match T.ti e with
      | some j => bif natEq j.sz 0 || decide (1000 < len) || decide (1000 < j.sz) || !(rOk ρ j.sz) then False else (match len, ps with
        | 0, [] => K (.c .emp) σ
        | 0, _ :: _ => False
        | l + 1, ps => aParts ρ j ps σ (fun qs σ' => aFill T (fun k => some (k * j.sz, j.sz)) qs (zcells j ((l + 1) * j.sz)) (fun cs => match allD cs with
          | some ds => match chunk j.sz (l + 1) ds with
            | some rows => K (.c (.d (.sl ρ j.sz rows))) σ'
            | none => False
          | none => False)))
      | none => False
    | _ => False
  | none => False

theorem zcells_rep {w : World} {C : Cz} {z : Value} {j : TI} (hz : allZ j.zero z.cells.toList = true) (hs : z.cells.size = j.sz) (h0 : 0 < j.sz) (n : Nat) :
    RepL w C ((Array.range n).map (z.cells[· % z.cells.size]!)).toList (zcells j n) := by
  have hr := allZ_rep (w := w) (C := C) hz
  have hl := hr.1
  simp at hl
  refine ⟨by simp [zcells], fun i v a h1 h2 => ?_⟩
  have hi : i < n := by have := (List.getElem?_eq_some_iff.1 h2).1; simpa [zcells] using this
  have e1 : v = z.cells[i % z.cells.size]! := by
    simp [hi] at h1; exact h1.symm
  have e2 : a = .d (j.zero.getD (i % j.sz) .nilp) := by
    simp [zcells, hi] at h2; rw [← h2]; simp
  · have hlt : i % j.sz < j.sz := Nat.mod_lt _ h0
    rw [e1, e2, hs]
    have g1 : z.cells.toList[i % j.sz]? = some z.cells[i % j.sz]! := by
      rw [Array.getElem?_toList, Array.getElem?_eq_getElem (by omega)]
      simp [hs, hlt]
    have g2 : (j.zero.map AV.d)[i % j.sz]? = some (.d (j.zero.getD (i % j.sz) .nilp)) := by
      rw [List.getElem?_map, List.getElem?_eq_getElem (by omega), List.getD_eq_getElem?_getD, List.getElem?_eq_getElem (by omega)]; rfl
    exact hr.2 _ _ _ g1 g2

end
end Go.Proofs.YtmaokphbfjpodaaGreatDoor.E

/- The engine, part 7: slices told by their elements, addresses, fields, elements, tests and arithmetic. No conditions. -/
set_option linter.unusedVariables false
set_option linter.unusedSimpArgs false
namespace Go.Proofs.YtmaokphbfjpodaaGreatDoor.E
open Go

section
variable {P : Program} {T : Tab} (HT : TabOk P T)

include HT in
theorem ok_buildSlice {w : World} {C : Cz} {σ : List AObj} (ρ : Nat) (hI : Inv w C σ) {t len : Nat} {parts : Array (Nat × Value)} {ps : List (Nat × Val)} (hp : RepP w C parts.toList ps) {K : Val → List AObj → Prop}
    (hk : aBuildSlice T ρ σ t len ps K) : OK1 P (Instr.buildSlice t len parts) w C σ K := by
  unfold aBuildSlice at hk
  split at hk
  · rename_i i hi
    obtain ⟨info, d, z, h1, h2, h3, h4, h6, h7, h8, h9, h10, h11, h12⟩ := ti_parts (HT.ti t i hi)
    split at hk
    · rename_i e hik
      rw [hik] at h3
      have := kind_sl h3
      subst this
      split at hk
      · rename_i j hj
        obtain ⟨ie, _, ze, k1, k2, k3, k4, k6, k7, k8, k9, k10, k11, k12⟩ := ti_parts (HT.ti e j hj)
        cases hg : natEq j.sz 0 || decide (1000 < len) || decide (1000 < j.sz) || !(rOk ρ j.sz) with
        | true => rw [hg] at hk; exact hk.elim
        | false =>
        rw [hg] at hk
        simp only [cond_false] at hk
        simp only [Bool.or_eq_false_iff, decide_eq_false_iff_not, Bool.not_eq_false'] at hg
        obtain ⟨⟨⟨g1, g2⟩, g3⟩, g4⟩ := hg
        have hpos : 0 < j.sz := by
          rcases Nat.eq_zero_or_pos j.sz with h0 | h0
          · rw [h0] at g1; cases g1
          · exact h0
        split at hk
        · have hnil : parts.toList = [] := List.eq_nil_of_length_eq_zero hp.1
          have hsz : w.heap.size < (w.alloc (.cells #[] e)).heap.size := by simp
          have hold : ∀ b, b < w.heap.size → (w.alloc (.cells #[] e)).heap[b]? = w.heap[b]? := fun b hb => alloc_old w _ hb
          refine ⟨.slice (some ⟨w.heap.size, 0, none⟩) 0 0, w.alloc (.cells #[] e), _, _, _, ?_, hk, (hI.reg ρ hsz hold).2, Ext.reg hI ρ rfl rfl rfl hsz hold, .c _ _ (.emp _)⟩
          have hpn : parts = #[] := by simpa using hnil
          subst hpn
          simp [Instr.buildSlice, run_underlying h2, sizeOf, typeInfo, k1, Instr.fill, newRow]
          rw [Array.range_zero', Array.map_empty]
        · exact hk.elim
        · rename_i len
          obtain ⟨C1, qs, σ1, q1, l1, I1, E1, p1⟩ := aParts_ok ρ j ps hI parts.toList hp hk
          have hz := zcells_rep (w := w) (C := C1) (j := j) k9 k10 hpos ((len + 1) * j.sz)
          obtain ⟨arr, cells, f1, f2, f3⟩ := ok_fill (T := T) (fun k => some (k * j.sz, j.sz)) (fun k => some (k * ie.size, ie.size)) (fun f y hy => by rw [k4]; exact hy) parts.toList qs p1.1 p1.2 _ _ hz _ q1
          split at f2
          · rename_i ds hds
            split at f2
            · rename_i rows hrows
              obtain ⟨c1, c2, c3, c4⟩ := chunk_some hrows
              have hsz : w.heap.size < (w.alloc (.cells arr e)).heap.size := by simp
              have hold : ∀ b, b < w.heap.size → (w.alloc (.cells arr e)).heap[b]? = w.heap[b]? := fun b hb => alloc_old w _ hb
              obtain ⟨u1, u2⟩ := I1.reg ρ hsz hold
              have hmul : (len + 1) * j.sz ≤ 1000 * 1000 := Nat.mul_le_mul (by omega) (by omega)
              refine ⟨.slice (some ⟨w.heap.size, 0, none⟩) (len + 1) (len + 1), w.alloc (.cells arr e), C1.reg w.heap.size ρ, _, _, ?_, f2, u2, E1.trans (Ext.reg I1 ρ rfl rfl rfl hsz hold), .c _ _ (.d _ _ ?_)⟩
              · refine run_buildSlice w t e (len + 1) parts arr ie ze h2 k1 k8 (by rw [k4]; simp; omega) (by rw [k4]; have := Nat.mul_pos (show 0 < len + 1 by omega) hpos; omega) ?_
                rw [k4] at f1 ⊢
                exact f1
              · have hrl := f3.1
                have hds' := allD_some hds
                refine .sl ρ j.sz w.heap.size 0 (len + 1) (len + 1) rows arr e (0, 0) (fun a b => (arr[a * j.sz + b]?).getD undef) ⟨⟨ρ, by simp [Cz.reg], rOk_w g4, .inl rfl⟩, fun hr => ⟨rfl, rfl, rOk_sz g4 hr⟩⟩ (alloc_new w _) c1.symm (Nat.le_refl _) c3 (fun a b ha hb => ?_) (fun a b row x ha hb => ?_)
                · have : a * j.sz + b < (len + 1) * j.sz := by
                    have h0 : a * j.sz + j.sz ≤ (len + 1) * j.sz := by rw [← Nat.succ_mul]; exact Nat.mul_le_mul_right _ ha
                    omega
                  rw [Nat.zero_add, Array.getElem?_eq_getElem (by simp at hrl; rw [hrl, hds']; simp; omega)]; rfl
                · have hx := c4 a b row x ha hb
                  exact ((allD_cells f3 hds (a * j.sz + b)).2 x hx).mono u1.rg
            · exact f2.elim
          · exact f2.elim
      · exact hk.elim
    · exact hk.elim
  · exact hk.elim

/-! ### Addresses -/
def aNil (x : Val) (K : Val → Prop) : Prop :=
  match x with
  | .c (.ptr o k) => K (.c (.ptr o k))
  | .c (.d (.rp r cs)) => K (.c (.d (.rp r cs)))
  | .c (.rowp o n j s k) => K (.c (.rowp o n j s k))
  | .c (.fn f a b) => K (.c (.fn f a b))
  | _ => False

theorem ok_nil {w : World} {C : Cz} {u : Value} {x : Val} (hx : RepV w C u x) {K : Val → Prop} (hk : aNil x K) : K x ∧ ((∃ a, u = .pointer (some a)) ∨ (∃ f a b, u = .func (.func f) a b)) := by
  unfold aNil at hk
  split at hk
  · refine ⟨hk, .inl ?_⟩
    obtain ⟨_, _, hx⟩ | _ := hx
    cases hx; exact ⟨_, rfl⟩
  · refine ⟨hk, .inl ?_⟩
    obtain ⟨_, _, hx⟩ | _ := hx
    have := repA_d hx
    cases this; exact ⟨_, rfl⟩
  · refine ⟨hk, .inl ?_⟩
    obtain ⟨_, _, hx⟩ | _ := hx
    cases hx; exact ⟨_, rfl⟩
  · refine ⟨hk, .inr ?_⟩
    obtain ⟨_, _, hx⟩ | _ := hx
    cases hx; exact ⟨_, _, _, rfl⟩
  · exact hk.elim

/-- An address a few cells on. -/
def aOff (x : Val) (off : Nat) (K : Val → Prop) : Prop :=
  match x with
  | .c (.ptr o k) => K (.c (.ptr o (k + off)))
  | .c (.d (.rp r cs)) => K (.c (.d (.rp r (cs.drop off))))
  | .c (.rowp o n j s k) => K (.c (.rowp o n j s (k + off)))
  | _ => False

theorem ok_off {w : World} {C : Cz} {u : Value} {x : Val} (hx : RepV w C u x) {off : Nat} {K : Val → Prop} (hk : aOff x off K) :
    ∃ b o y, u = .pointer (some ⟨b, o, none⟩) ∧ K y ∧ RepV w C (.pointer (some ⟨b, o + off, none⟩)) y := by
  unfold aOff at hk
  split at hk
  · rename_i o k
    obtain ⟨_, _, hx⟩ | _ := hx
    cases hx with
    | ptr _ _ b e he hr hb => exact ⟨b, k, _, rfl, hk, .c _ _ (.ptr o (k + off) b e he hr hb)⟩
  · obtain ⟨_, _, hx⟩ | _ := hx
    have hd := repA_d hx
    cases hd with
    | rp _ b o _ cs e fz vs hr hh hcell hrep =>
      refine ⟨b, o, _, rfl, hk, .c _ _ (.d _ _ (.rp _ b (o + off) _ cs e fz (fun i => vs (off + i)) hr hh (fun i hi => ?_) (fun i x hx => ?_)))⟩
      · simp only [List.length_drop] at hi
        rw [Nat.add_assoc]; exact hcell (off + i) (by omega)
      · rw [List.getElem?_drop] at hx; exact hrep (off + i) x hx
  · rename_i o n j s k
    obtain ⟨_, _, hx⟩ | _ := hx
    cases hx with
    | rowp _ _ _ _ _ e he hr hn b hv => exact ⟨b, j * s + k, _, rfl, hk, by rw [Nat.add_assoc]; exact .c _ _ (.rowp o n j s (k + off) e he hr hn b hv)⟩
  · exact hk.elim

theorem addr_add (b o n : Nat) : (⟨b, o, none⟩ : Addr).add n = ⟨b, o + n, none⟩ := Addr.add_mid b o n

def aFieldAddr (T : Tab) (s : Nat) (x : Val) (f : Nat) (K : Val → Prop) : Prop :=
  match T.ti s with
  | some i => match i.k with
    | .strct => match i.flds[f]? with
      | some (off, ty) => aOff x off K
      | none => False
    | _ => False
  | none => False

include HT in
theorem ok_fieldAddr {w : World} {C : Cz} {σ : List AObj} (hI : Inv w C σ) {s f : Nat} {u : Value} {x : Val} (hx : RepV w C u x) {K : Val → List AObj → Prop} (hk : aFieldAddr T s x f (fun y => K y σ)) :
    OK1 P (Instr.fieldAt s u f) w C σ K := by
  unfold aFieldAddr at hk
  split at hk
  · rename_i i hi
    obtain ⟨info, d, z, h1, h2, h3, h4, h6, h7, h8, h9, h10, h11, h12⟩ := ti_parts (HT.ti s i hi)
    split at hk
    · rename_i hik
      rw [hik] at h3
      obtain ⟨fs, rfl⟩ := kind_strct h3
      obtain ⟨f1, f2⟩ := h7 fs hik rfl
      split at hk
      · rename_i off ty hfl
        obtain ⟨fd, jj, g1, g2, g3, g4, g5⟩ := fldsOk_get i.flds 0 f1 f off ty hfl
        simp only [Nat.zero_add] at g1
        obtain ⟨b, o, y, rfl, hk, hr⟩ := ok_off hx hk
        refine OK1.same hI ?_ hk hr
        simp [Instr.fieldAt, run_underlying h2, g1, Instr.sureAddr, fieldPlace, sizeOf, typeInfo, g3, g4, g5, addr_add, g2]
      · exact hk.elim
    · exact hk.elim
  · exact hk.elim

/-- A part of an aggregate. -/
theorem ok_part {w : World} {C : Cz} {σ : List AObj} (hI : Inv w C σ) {ty : Nat} {j : TI} (hj : T.ti ty = some j) (hok : TabOk P T) {arr : Array Value} {cells : List AV} (hr : RepL w C arr.toList cells) (off : Nat)
    {K : Val → List AObj → Prop} (hk : aCells j (cells.drop off) (fun y => K y σ)) : OK1 P (part ty arr off) w C σ K := by
  obtain ⟨info, d, z, h1, h2, h3, h4, h6, h7, h8, h9, h10, h11, h12⟩ := ti_parts (hok.ti ty j hj)
  have hrd := hr.drop off
  unfold aCells at hk
  cases ha : j.agg with
  | true =>
    rw [ha] at hk
    simp only [cond_true] at hk
    split at hk
    · rename_i ys hy
      obtain ⟨g1, g2, g3⟩ := takeN_some hy
      have hag : (isAgg ty).run P w = .ok true w := by
        unfold isAgg
        rw [Sem.run_bind, run_underlying h2 w]
        rw [ha] at h11
        cases d <;> simp_all [TypeDesc.isRow]
      refine OK1.same hI (v := .agg (arr.extract off (off + j.sz))) ?_ hk (.agg _ _ ?_)
      · simp [part, hag, sizeOf, typeInfo, h1, h4]
      · rw [g3]
        have := hrd.take j.sz
        simpa [Array.toList_extract, List.extract_eq_take_drop] using this
    · exact hk.elim
  | false =>
    rw [ha] at hk
    simp only [cond_false] at hk
    split at hk
    · rename_i a l hcd
      have hag : (isAgg ty).run P w = .ok false w := by
        unfold isAgg
        rw [Sem.run_bind, run_underlying h2 w]
        rw [ha] at h11
        cases d <;> simp_all [TypeDesc.isRow]
      obtain ⟨v, hv⟩ : ∃ v, (arr.toList.drop off)[0]? = some v := ⟨_, List.getElem?_eq_getElem (by rw [hrd.1, hcd]; simp)⟩
      have hrv := hrd.2 0 v a hv (by rw [hcd]; rfl)
      rw [List.getElem?_drop, Nat.add_zero, Array.getElem?_toList] at hv
      exact OK1.same hI (v := v) (by simp [part, hag, hv]) hk (.c _ _ hrv)
    · exact hk.elim

def aField (T : Tab) (s : Nat) (x : Val) (f : Nat) (K : Val → Prop) : Prop :=
  match T.ti s with
  | some i => match i.k with
    | .strct => match i.flds[f]?, x with
      | some (off, ty), .agg cells => match T.ti ty with
        | some j => aCells j (cells.drop off) K
        | none => False
      | _, _ => False
    | _ => False
  | none => False

include HT in
theorem ok_field {w : World} {C : Cz} {σ : List AObj} (hI : Inv w C σ) {s f : Nat} {u : Value} {x : Val} (hx : RepV w C u x) {K : Val → List AObj → Prop} (hk : aField T s x f (fun y => K y σ)) :
    OK1 P (Instr.field s u f) w C σ K := by
  unfold aField at hk
  split at hk
  · rename_i i hi
    obtain ⟨info, d, z, h1, h2, h3, h4, h6, h7, h8, h9, h10, h11, h12⟩ := ti_parts (HT.ti s i hi)
    split at hk
    · rename_i hik
      rw [hik] at h3
      obtain ⟨fs, rfl⟩ := kind_strct h3
      obtain ⟨f1, f2⟩ := h7 fs hik rfl
      split at hk
      · rename_i off ty cells hfl
        split at hk
        · rename_i j hj
          obtain ⟨fd, jj, g1, g2, g3, g4, g5⟩ := fldsOk_get i.flds 0 f1 f off ty hfl
          simp only [Nat.zero_add] at g1
          cases hx with
          | agg arr _ hr =>
          obtain ⟨v, w', C', y, σ', r1, r2⟩ := ok_part hI hj HT hr off hk
          refine ⟨v, w', C', y, σ', ?_, r2⟩
          simp [Instr.field, run_underlying h2, g1, asAgg, g3, g2, r1]
        · exact hk.elim
      · exact hk.elim
    · exact hk.elim
  · exact hk.elim

/-! ### Elements -/
def aIndexAddr (T : Tab) (σ : List AObj) (t : Nat) (x ix : Val) (K : Val → Prop) : Prop :=
  match T.ti t with
  | some i => match i.k with
    | .sl e => match T.ti e with
      | some j => match x, ix with
        | .c (.d (.sl r sz rows)), .c (.d (.int k n)) => bif natEq sz j.sz then ((0 ≤ n ∧ n < rows.length) ∧ ∀ row, rows[n.toNat]? = some row → K (.c (.d (.rp r row)))) else False
        | .c (.full r sz rows), .c (.d (.int k n)) => bif natEq sz j.sz then ((0 ≤ n ∧ n < rows.length) ∧ ∀ row, rows[n.toNat]? = some row → K (.c (.d (.rp r row)))) else False
        | .c (.own o m), .c (.d (.int k n)) => match σ[o]? with
          | some (.row _ sz rows) => bif natEq sz j.sz then ((m = rows.length ∧ 0 ≤ n ∧ n < rows.length) ∧ K (.c (.rowp o m n.toNat sz 0))) else False
          | _ => False
        | .c (.d (.wsl k rows)), .c (.d (.int _ n)) => bif natEq (wsz k) j.sz then ((0 ≤ n ∧ n < rows.length) ∧ ∀ row, rows[n.toNat]? = some row → K (.c (.d (.wrp k row)))) else False
        | _, _ => False
      | none => False
    | .arr len e => match T.ti e with
      | some j => match ix with
        | .c (.d (.int k n)) => (0 ≤ n ∧ n < len) ∧ aOff x (n.toNat * j.sz) K
        | _ => False
      | none => False
    | _ => False
  | none => False

theorem int_of {w : World} {C : Cz} {v : Value} {k : IntKind} {n : Int} (h : RepV w C v (.c (.d (.int k n)))) : v = .int k n := by
  obtain ⟨_, _, hx⟩ | _ := h
  have := repA_d hx
  cases this; rfl

theorem rp_of_sl {w : World} {rg : Nat → Option Nat} {A : Option Addr} {m c r sz : Nat} {rows : List (List DV)} (h : RepD w rg (.slice A m c) (.sl r sz rows)) {n : Nat} {row : List DV} (hrow : rows[n]? = some row) :
    m = rows.length ∧ ∃ b o, A = some ⟨b, o, none⟩ ∧ RepD w rg (.pointer (some ⟨b, o + n * sz, none⟩)) (.rp r row) := by
  have hn := (List.getElem?_eq_some_iff.1 hrow).1
  cases h with
  | sl0 => simp at hn
  | sl _ _ b o _ _ _ cs e fz vs hr hh hm hc hsz hcell hrep =>
    have hrl : row.length = sz := hsz row (List.mem_of_getElem? hrow)
    refine ⟨hm, b, o, rfl, .rp r b (o + n * sz) row cs e fz (fun i => vs n i) hr.1 hh (fun i hi => hcell n i (by omega) (by omega)) (fun i x hx => hrep n i row x hrow hx)⟩

theorem wrp_of_wsl {w : World} {rg : Nat → Option Nat} {A : Option Addr} {m c : Nat} {k : Bool} {rows : List (List DV)} (h : RepD w rg (.slice A m c) (.wsl k rows)) {n : Nat} {row : List DV} (hrow : rows[n]? = some row) :
    m = rows.length ∧ ∃ b, A = some ⟨b, 0, none⟩ ∧ RepD w rg (.pointer (some ⟨b, n * wsz k, none⟩)) (.wrp k row) := by
  have hn := (List.getElem?_eq_some_iff.1 hrow).1
  cases h with
  | wsl0 => simp at hn
  | wsl _ b _ _ _ cs e told vs hr hh hm hc hsz hcell hsp hrep =>
    exact ⟨hm, b, rfl, .wrp k b n row cs e (told n) (fun i => vs n i) hr hh (hsz row (List.mem_of_getElem? hrow)) (fun i hi => hcell n i (by omega) hi) (fun i v ht hv => hsp n i v ht hv) (fun i x ht hx => hrep n i row x ht hrow hx)⟩

include HT in
theorem ok_indexAddr {w : World} {C : Cz} {σ : List AObj} (hI : Inv w C σ) {t : Nat} {u v : Value} {x ix : Val} (hx : RepV w C u x) (hv : RepV w C v ix) {K : Val → List AObj → Prop} (hk : aIndexAddr T σ t x ix (fun y => K y σ)) :
    OK1 P (Instr.indexAt t u v) w C σ K := by
  unfold aIndexAddr at hk
  split at hk
  · rename_i i hi
    obtain ⟨info, d, z, h1, h2, h3, h4, h6, h7, h8, h9, h10, h11, h12⟩ := ti_parts (HT.ti t i hi)
    split at hk
    · rename_i e hik
      rw [hik] at h3
      have := kind_sl h3
      subst this
      split at hk
      · rename_i j hj
        obtain ⟨ie, _, ze, k1, k2, k3, k4, k6, k7, k8, k9, k10, k11, k12⟩ := ti_parts (HT.ti e j hj)
        have run : ∀ (b o m c : Nat) (k : IntKind) (n : Int), 0 ≤ n → n < m → (Instr.indexAt t (.slice (some ⟨b, o, none⟩) m c) (.int k n)).run P w = .ok (.pointer (some ⟨b, o + n.toNat * j.sz, none⟩)) w := fun b o m c k n h0 hm => by
          simp [Instr.indexAt, asIntOf, run_underlying h2, h0, hm, sizeOf, typeInfo, k1, k4, addr_add]
        split at hk
        · rename_i r sz rows k n
          cases hn : natEq sz j.sz with
          | false => rw [hn] at hk; exact hk.elim
          | true =>
          rw [hn] at hk
          obtain ⟨⟨b1, b2⟩, hk⟩ := hk
          have hsz := natEq_eq hn
          have hvv := int_of hv
          subst hvv
          obtain ⟨_, _, hx⟩ | _ := hx
          have hd := repA_d hx
          obtain ⟨A, m, c, rfl⟩ : ∃ A m c, u = .slice A m c := by cases hd <;> exact ⟨_, _, _, rfl⟩
          have hrow : rows[n.toNat]? = some (rows[n.toNat]'(by omega)) := List.getElem?_eq_getElem _
          obtain ⟨hm, b, o, rfl, hrp⟩ := rp_of_sl hd hrow
          exact OK1.same hI (run b o m c k n b1 (by omega)) (hk _ hrow) (.c _ _ (.d _ _ (by rw [← hsz]; exact hrp)))
        · rename_i r sz rows k n
          cases hn : natEq sz j.sz with
          | false => rw [hn] at hk; exact hk.elim
          | true =>
          rw [hn] at hk
          obtain ⟨⟨b1, b2⟩, hk⟩ := hk
          have hsz := natEq_eq hn
          have hvv := int_of hv
          subst hvv
          obtain ⟨_, _, hx⟩ | _ := hx
          cases hx with
          | full A m _ _ _ hml hd =>
          have hrow : rows[n.toNat]? = some (rows[n.toNat]'(by omega)) := List.getElem?_eq_getElem _
          obtain ⟨hm, b, o, rfl, hrp⟩ := rp_of_sl hd hrow
          exact OK1.same hI (run b o m m k n b1 (by omega)) (hk _ hrow) (.c _ _ (.d _ _ (by rw [← hsz]; exact hrp)))
        · rename_i o m k n
          split at hk
          · rename_i _ sz rows ho
            cases hn : natEq sz j.sz with
            | false => rw [hn] at hk; exact hk.elim
            | true =>
            rw [hn] at hk
            obtain ⟨⟨b0, b1, b2⟩, hk⟩ := hk
            have hsz := natEq_eq hn
            have hvv := int_of hv
            subst hvv
            obtain ⟨_, _, hx⟩ | _ := hx
            cases hx with
            | own _ _ en he hr hle A c hval =>
            obtain ⟨g1, g2, g3, g4, g5, xs, g6, g7⟩ := hI.ok o _ en ho he
            have hval := hval (by rw [b0, g2])
            rcases g6.2 with ⟨q1, q2⟩ | ⟨g, cap, cur, q1, _, q3, q4, q5, q6, q7⟩
            · omega
            · rw [q1] at hval
              cases hval
              refine OK1.same hI (run g 0 _ _ k n b1 (by omega)) hk (.c _ _ ?_)
              rw [Nat.zero_add, hsz]
              exact .rowp o _ _ _ 0 en he hr hle g (fun _ => by rw [g3, q1]; rfl)
          · exact hk.elim
        · rename_i kw rows k n
          cases hn : natEq (wsz kw) j.sz with
          | false => rw [hn] at hk; exact hk.elim
          | true =>
          rw [hn] at hk
          obtain ⟨⟨b1, b2⟩, hk⟩ := hk
          have hsz := natEq_eq hn
          have hvv := int_of hv
          subst hvv
          obtain ⟨_, _, hx⟩ | _ := hx
          have hd := repA_d hx
          obtain ⟨A, m, c, rfl⟩ : ∃ A m c, u = .slice A m c := by cases hd <;> exact ⟨_, _, _, rfl⟩
          have hrow : rows[n.toNat]? = some (rows[n.toNat]'(by omega)) := List.getElem?_eq_getElem _
          obtain ⟨hm, b, rfl, hrp⟩ := wrp_of_wsl hd hrow
          exact OK1.same hI (run b 0 m c k n b1 (by omega)) (hk _ hrow) (.c _ _ (.d _ _ (by rw [Nat.zero_add, ← hsz]; exact hrp)))
        · exact hk.elim
      · exact hk.elim
    · rename_i len e hik
      rw [hik] at h3
      have := kind_arr h3
      subst this
      split at hk
      · rename_i j hj
        obtain ⟨ie, _, ze, k1, k2, k3, k4, k6, k7, k8, k9, k10, k11, k12⟩ := ti_parts (HT.ti e j hj)
        split at hk
        · rename_i k n
          obtain ⟨⟨b1, b2⟩, hk⟩ := hk
          have hvv := int_of hv
          subst hvv
          obtain ⟨b, o, y, rfl, hk, hr⟩ := ok_off hx hk
          refine OK1.same hI ?_ hk hr
          simp [Instr.indexAt, asIntOf, run_underlying h2, Instr.sureAddr, b1, b2, sizeOf, typeInfo, k1, k4, addr_add]
        · exact hk.elim
      · exact hk.elim
    · exact hk.elim
  · exact hk.elim

def byteAt (s : ByteArray) (n : Int) : Int := (((s.data.toList[n.toNat]?).getD 0).toNat : Int)

def aIndex (T : Tab) (t : Nat) (x ix : Val) (K : Val → Prop) : Prop :=
  match T.ti t with
  | some i => match i.k, x, ix with
    | .str, .c (.d (.str s)), .c (.d (.int k n)) => (0 ≤ n ∧ n < s.size) ∧ K (.c (.d (.int .u8 (byteAt s n))))
    | .arr len e, .agg cells, .c (.d (.int k n)) => match T.ti e with
      | some j => (0 ≤ n ∧ n < len) ∧ aCells j (cells.drop (n.toNat * j.sz)) K
      | none => False
    | _, _, _ => False
  | none => False

theorem kind_str {d : TypeDesc} (h : kindOk .str d = true) : d = .string := by cases d <;> first | (cases h; done) | rfl
theorem str_of {w : World} {C : Cz} {v : Value} {s : ByteArray} (h : RepV w C v (.c (.d (.str s)))) : v = .string s := by
  obtain ⟨_, _, hx⟩ | _ := h
  have := repA_d hx
  cases this; rfl
theorem bool_of {w : World} {C : Cz} {v : Value} {b : Bool} (h : RepV w C v (.c (.d (.bool b)))) : v = .bool b := by
  obtain ⟨_, _, hx⟩ | _ := h
  have := repA_d hx
  cases this; rfl

include HT in
theorem ok_index {w : World} {C : Cz} {σ : List AObj} (hI : Inv w C σ) {t : Nat} {u v : Value} {x ix : Val} (hx : RepV w C u x) (hv : RepV w C v ix) {K : Val → List AObj → Prop} (hk : aIndex T t x ix (fun y => K y σ)) :
    OK1 P (Instr.index t u v) w C σ K := by
  unfold aIndex at hk
  split at hk
  · rename_i i hi
    obtain ⟨info, d, z, h1, h2, h3, h4, h6, h7, h8, h9, h10, h11, h12⟩ := ti_parts (HT.ti t i hi)
    split at hk
    · rename_i s k n hik
      rw [hik] at h3
      have := kind_str h3
      subst this
      obtain ⟨⟨b1, b2⟩, hk⟩ := hk
      have hvv := int_of hv
      subst hvv
      have hss := str_of hx
      subst hss
      refine OK1.same hI (v := .int .u8 (byteAt s n)) ?_ hk (.c _ _ (.d _ _ (.int _ _)))
      have hlt : n.toNat < s.size := by omega
      have e1 : s[n.toNat]? = some (s[n.toNat]'hlt) := by simp [hlt]
      have e2 : byteAt s n = ((s[n.toNat]'hlt).toNat : Int) := by
        have : s.data.toList[n.toNat]? = some (s[n.toNat]'hlt) := by
          rw [Array.getElem?_toList]
          have : n.toNat < s.data.size := hlt
          rw [Array.getElem?_eq_getElem this]; rfl
        simp [byteAt, this]
      simp [Instr.index, asIntOf, run_underlying h2, b1, e1, e2]
    · rename_i len e cells k n hik
      rw [hik] at h3
      have := kind_arr h3
      subst this
      split at hk
      · rename_i j hj
        obtain ⟨ie, _, ze, k1, k2, k3, k4, k6, k7, k8, k9, k10, k11, k12⟩ := ti_parts (HT.ti e j hj)
        obtain ⟨⟨b1, b2⟩, hk⟩ := hk
        have hvv := int_of hv
        subst hvv
        cases hx with
        | agg arr _ hr =>
        obtain ⟨v, w', C', y, σ', r1, r2⟩ := ok_part hI hj HT hr _ hk
        refine ⟨v, w', C', y, σ', ?_, r2⟩
        simp [Instr.index, asIntOf, run_underlying h2, b1, b2, sizeOf, typeInfo, k1, k4, r1]
      · exact hk.elim
    · exact hk.elim
  · exact hk.elim

end
end Go.Proofs.YtmaokphbfjpodaaGreatDoor.E

/- The engine, part 8: arithmetic, tests, interfaces, strings, appends. No conditions. -/
set_option linter.unusedVariables false
set_option linter.unusedSimpArgs false
namespace Go.Proofs.YtmaokphbfjpodaaGreatDoor.E
open Go

section
variable {P : Program} {T : Tab} (HT : TabOk P T)

def ikEq : IntKind → IntKind → Bool
  | .i8, .i8 | .i16, .i16 | .i32, .i32 | .i64, .i64 | .u8, .u8 | .u16, .u16 | .u32, .u32 | .u64, .u64 => true
  | _, _ => false
theorem ikEq_eq {a b : IntKind} (h : ikEq a b = true) : a = b := by cases a <;> cases b <;> first | rfl | cases h

def iBin (op : BinOp) (k : IntKind) (a b : Int) (K : Val → Prop) : Prop :=
  match op with
  | .add => K (.c (.d (.int k (k.wrap (a + b)))))
  | .sub => K (.c (.d (.int k (k.wrap (a - b)))))
  | .mul => K (.c (.d (.int k (k.wrap (a * b)))))
  | .quo => b ≠ 0 ∧ K (.c (.d (.int k (k.wrap (a.tdiv b)))))
  | .rem => b ≠ 0 ∧ K (.c (.d (.int k (a.tmod b))))
  | .eql => K (.c (.d (.bool (a == b))))
  | .neq => K (.c (.d (.bool (a != b))))
  | .lss => K (.c (.d (.bool (decide (a < b)))))
  | .leq => K (.c (.d (.bool (decide (a ≤ b)))))
  | .gtr => K (.c (.d (.bool (decide (a > b)))))
  | .geq => K (.c (.d (.bool (decide (a ≥ b)))))
  | _ => False

def sBin (op : BinOp) (a b : ByteArray) (K : Val → Prop) : Prop :=
  match op with
  | .add => a.size + b.size ≤ 9223372036854775807 ∧ K (.c (.d (.str (a ++ b))))
  | .eql => K (.c (.d (.bool (decide (a = b)))))
  | .neq => K (.c (.d (.bool (!decide (a = b)))))
  | .lss => K (.c (.d (.bool (Op.bytesLess a.toList b.toList))))
  | .gtr => K (.c (.d (.bool (!(Op.bytesLess a.toList b.toList || decide (a = b))))))
  | .leq => K (.c (.d (.bool (Op.bytesLess a.toList b.toList || decide (a = b)))))
  | .geq => K (.c (.d (.bool (!Op.bytesLess a.toList b.toList))))
  | _ => False

/-- Nothing, something: of what may be held against nil. -/
def nilOf : Val → Option Bool
  | .c (.d .nils) | .c (.d .nilp) | .c (.d .nili) | .c (.d .nilf) => some true
  | .c (.ptr _ _) | .c (.rowp _ _ _ _ _) | .c (.d (.rp _ _)) | .c (.d (.ifc _ _)) | .c (.d (.ifa _ _)) | .c (.ifc _ _) | .c (.ifa _ _) | .c (.fn _ _ _) => some false
  | .c (.d (.sl _ _ (_ :: _))) => some false
  | _ => none

def isNilConst : Val → TK → Bool
  | .c (.d .nils), .sl _ => true
  | .c (.d .nilp), .ptr => true
  | .c (.d .nili), .ifc => true
  | .c (.d .nilf), .fn => true
  | _, _ => false

def fitsK : Val → TK → Bool
  | .c (.d .nils), .sl _ | .c (.d (.sl _ _ _)), .sl _ => true
  | .c (.d .nilp), .ptr | .c (.ptr _ _), .ptr | .c (.rowp _ _ _ _ _), .ptr | .c (.d (.rp _ _)), .ptr => true
  | .c (.d .nili), .ifc | .c (.d (.ifc _ _)), .ifc | .c (.d (.ifa _ _)), .ifc | .c (.ifc _ _), .ifc | .c (.ifa _ _), .ifc => true
  | .c (.d .nilf), .fn | .c (.fn _ _ _), .fn => true
  | _, _ => false

/-- x is held against nil (y). -/
def nBin (op : BinOp) (tk : TK) (x : Val) (cst : Bool) (K : Val → Prop) : Prop :=
  bif cst && fitsK x tk then (match nilOf x with
    | some b => match op with
      | .eql => K (.c (.d (.bool b)))
      | .neq => K (.c (.d (.bool (!b))))
      | _ => False
    | none => False) else False

def aBin (T : Tab) (op : BinOp) (t : Nat) (x y : Val) (cst : Bool) (K : Val → Prop) : Prop :=
  match x, y with
  | .c (.d (.int k a)), .c (.d (.int k' b)) => bif ikEq k k' then iBin op k a b K else False
  | .c (.d (.str a)), .c (.d (.str b)) => sBin op a b K
  | .c (.d (.bool a)), .c (.d (.bool b)) => match T.ti t with
    | some i => match i.k, op with
      | .bool, .eql => K (.c (.d (.bool (a == b))))
      | .bool, .neq => K (.c (.d (.bool (!(a == b)))))
      | _, _ => False
    | none => False
  | x, y => match T.ti t with
    | some i => bif isNilConst y i.k then nBin op i.k x cst K else False
    | none => False

theorem toList_eq (a b : ByteArray) : (a.toList == b.toList) = decide (a = b) := by
  by_cases h : a = b
  · subst h; simp
  · rw [decide_eq_false h]
    rw [beq_eq_false_iff_ne]
    intro e
    rw [Lib.toList_data, Lib.toList_data] at e
    apply h
    cases a; cases b
    simp at e
    exact congrArg ByteArray.mk (by simpa using e)

theorem run_iBin {k : IntKind} {a b : Int} {op : BinOp} {t : Nat} {w : World} {C : Cz} {K : Val → Prop} (hk : iBin op k a b K) :
    ∃ v x, (binOp op t (.int k a) (.int k b)).run P w = .ok v w ∧ K x ∧ RepV w C v x := by
  unfold iBin at hk
  split at hk
  case h_4 => obtain ⟨h0, hk⟩ := hk; exact ⟨_, _, by simp [binOp, Op.intDiv, h0], hk, .c _ _ (.d _ _ (.int _ _))⟩
  case h_5 => obtain ⟨h0, hk⟩ := hk; exact ⟨_, _, by simp [binOp, Op.intDiv, h0], hk, .c _ _ (.d _ _ (.int _ _))⟩
  case h_1 => exact ⟨_, _, by simp [binOp, Op.intArith], hk, .c _ _ (.d _ _ (.int _ _))⟩
  case h_2 => exact ⟨_, _, by simp [binOp, Op.intArith], hk, .c _ _ (.d _ _ (.int _ _))⟩
  case h_3 => exact ⟨_, _, by simp [binOp, Op.intArith], hk, .c _ _ (.d _ _ (.int _ _))⟩
  case h_12 => exact hk.elim
  all_goals exact ⟨_, _, by simp [binOp, Op.intCmp], hk, .c _ _ (.d _ _ (.bool _))⟩

theorem run_sBin {a b : ByteArray} {op : BinOp} {t : Nat} {w : World} {C : Cz} {K : Val → Prop} (hk : sBin op a b K) :
    ∃ v x, (binOp op t (.string a) (.string b)).run P w = .ok v w ∧ K x ∧ RepV w C v x := by
  unfold sBin at hk
  split at hk
  case h_1 =>
    obtain ⟨h0, hk⟩ := hk
    have : ¬ (IntKind.i64.max : Int) < ((a.size + b.size : Nat) : Int) := by
      have : (IntKind.i64.max : Int) = 9223372036854775807 := by decide
      rw [this]; omega
    refine ⟨.string (a ++ b), _, ?_, hk, .c _ _ (.d _ _ (.str _))⟩
    simp only [binOp, Op.stringOp]
    rw [if_neg this]; rfl
  case h_8 => exact hk.elim
  all_goals exact ⟨_, _, by simp only [binOp, Op.stringOp, toList_eq]; rfl, hk, .c _ _ (.d _ _ (.bool _))⟩

theorem eq_sl {t e : Nat} (h2 : P.underlying t = some (.slice e)) (w : World) (n : Nat) (A : Option Addr) (m c : Nat) : (Op.equalIn (n + 1) t (.slice A m c) (.slice none 0 0)).run P w = .ok A.isNone w := by
  unfold Op.equalIn
  simp only [Sem.run_bind, run_underlying h2 w, Result.andThen_ok]
  cases A <;> rfl
theorem eq_ptr {t e : Nat} (h2 : P.underlying t = some (.pointer e)) (w : World) (n : Nat) (A : Option Addr) : (Op.equalIn (n + 1) t (.pointer A) (.pointer none)).run P w = .ok A.isNone w := by
  unfold Op.equalIn
  simp only [Sem.run_bind, run_underlying h2 w, Result.andThen_ok]
  cases A <;> rfl
theorem eq_if0 {t : Nat} {ms} (h2 : P.underlying t = some (.interface ms)) (w : World) (n : Nat) : (Op.equalIn (n + 1) t .nilIface .nilIface).run P w = .ok true w := by
  unfold Op.equalIn
  simp only [Sem.run_bind, run_underlying h2 w, Result.andThen_ok]
  rfl
theorem eq_if1 {t : Nat} {ms} (h2 : P.underlying t = some (.interface ms)) (w : World) (n : Nat) (q : TypeId) (v : Value) : (Op.equalIn (n + 1) t (.iface q v) .nilIface).run P w = .ok false w := by
  unfold Op.equalIn
  simp only [Sem.run_bind, run_underlying h2 w, Result.andThen_ok]
  rfl
theorem eq_fn0 {t : Nat} {p r} {va : Bool} (h2 : P.underlying t = some (.func p r va)) (w : World) (n : Nat) : (Op.equalIn (n + 1) t .nilFunc .nilFunc).run P w = .ok true w := by
  unfold Op.equalIn
  simp only [Sem.run_bind, run_underlying h2 w, Result.andThen_ok]
  rfl
theorem eq_fn1 {t : Nat} {p r} {va : Bool} (h2 : P.underlying t = some (.func p r va)) (w : World) (n : Nat) (f : Fn) (x y : Array Value) : (Op.equalIn (n + 1) t (.func f x y) .nilFunc).run P w = .ok false w := by
  unfold Op.equalIn
  simp only [Sem.run_bind, run_underlying h2 w, Result.andThen_ok]
  rfl
theorem eq_bool {t : Nat} (h2 : P.underlying t = some .bool) (w : World) (n : Nat) (a b : Bool) : (Op.equalIn (n + 1) t (.bool a) (.bool b)).run P w = .ok (a == b) w := by
  unfold Op.equalIn
  simp only [Sem.run_bind, run_underlying h2 w, Result.andThen_ok]
  rfl

theorem c_of {w : World} {C : Cz} {v : Value} {a : AV} (h : RepV w C v (.c a)) : RepA w C v a := by
  cases h with
  | c _ _ h => exact h

theorem run_equal_nil {t : Nat} {i : TI} {d : TypeDesc} (h2 : P.underlying t = some d) (h3 : kindOk i.k d = true) {w : World} {C : Cz} {u v : Value} {x y : Val} (hx : RepV w C u x) (hy : RepV w C v y)
    (hf : fitsK x i.k = true) (hc : isNilConst y i.k = true) {b : Bool} (hn : nilOf x = some b) (n : Nat) : (Op.equalIn (n + 1) t u v).run P w = .ok b w := by
  unfold isNilConst at hc
  split at hc
  case h_5 => cases hc
  case h_1 e hik =>
    rw [hik] at h3 hf
    have := kind_sl h3
    subst this
    have hd := repA_d (c_of hy)
    cases hd
    unfold fitsK at hf
    split at hf <;> first | (cases hf; done) | skip
    all_goals (try (rename_i hh; cases hh; done))
    · have hd := repA_d (c_of hx)
      cases hd
      cases hn
      exact eq_sl h2 w n none 0 0
    · rename_i rows' _ _
      have hd := repA_d (c_of hx)
      cases hd with
      | sl0 => simp [nilOf] at hn
      | sl r sz b o m c _ cs e fz vs hr hh hm hc hsz hcell hrep =>
        cases rows' with
        | nil => simp [nilOf] at hn
        | cons r rs =>
          cases hn
          exact eq_sl h2 w n _ _ _
  case h_2 hik =>
    rw [hik] at h3 hf
    obtain ⟨e, rfl⟩ : ∃ e, d = .pointer e := by cases d <;> first | (cases h3; done) | exact ⟨_, rfl⟩
    have hd := repA_d (c_of hy)
    cases hd
    unfold fitsK at hf
    split at hf <;> first | (cases hf; done) | skip
    all_goals (try (rename_i hh; cases hh; done))
    · have hd := repA_d (c_of hx)
      cases hd; cases hn; exact eq_ptr h2 w n none
    · have hd := c_of hx
      cases hd; cases hn; exact eq_ptr h2 w n (some _)
    · have hd := c_of hx
      cases hd; cases hn; exact eq_ptr h2 w n (some _)
    · have hd := repA_d (c_of hx)
      cases hd; cases hn; exact eq_ptr h2 w n (some _)
  case h_3 hik =>
    rw [hik] at h3 hf
    obtain ⟨e, rfl⟩ : ∃ e, d = .interface e := by cases d <;> first | (cases h3; done) | exact ⟨_, rfl⟩
    have hd := repA_d (c_of hy)
    cases hd
    unfold fitsK at hf
    split at hf <;> first | (cases hf; done) | skip
    all_goals (try (rename_i hh; cases hh; done))
    · have hd := repA_d (c_of hx)
      cases hd; cases hn; exact eq_if0 h2 w n
    · have hd := repA_d (c_of hx)
      cases hd; cases hn; exact eq_if1 h2 w n _ _
    · have hd := repA_d (c_of hx)
      cases hd; cases hn; exact eq_if1 h2 w n _ _
    · have hd := c_of hx
      cases hd; cases hn; exact eq_if1 h2 w n _ _
    · have hd := c_of hx
      cases hd; cases hn; exact eq_if1 h2 w n _ _
  case h_4 hik =>
    rw [hik] at h3 hf
    obtain ⟨p, r, va, rfl⟩ : ∃ p r va, d = .func p r va := by cases d <;> first | (cases h3; done) | exact ⟨_, _, _, rfl⟩
    have hd := repA_d (c_of hy)
    cases hd
    unfold fitsK at hf
    split at hf <;> first | (cases hf; done) | skip
    all_goals (try (rename_i hh; cases hh; done))
    · have hd := repA_d (c_of hx)
      cases hd; cases hn; exact eq_fn0 h2 w n
    · have hd := c_of hx
      cases hd; cases hn; exact eq_fn1 h2 w n _ _ _

def isC : Operand → Bool
  | .const _ => true
  | _ => false

theorem guard_not (op : BinOp) (t : Nat) (X Y : Operand) (a b : Value) (w : World) (h1 : ¬ (a = .nilIface ∧ b = .nilIface)) (h2 : ¬ ∃ x y, a = .agg x ∧ b = .agg y) : (eqGuard op t X Y a b).run P w = .ok () w := by
  unfold eqGuard
  cases op <;> first
    | rfl
    | (cases a <;> cases b <;> first | (exact absurd ⟨rfl, rfl⟩ h1) | (exact absurd ⟨_, _, rfl, rfl⟩ h2) | rfl)

theorem guard_nil (op : BinOp) (t : Nat) (X Y : Operand) (w : World) (h : (isC X || isC Y) = true) : (eqGuard op t X Y .nilIface .nilIface).run P w = .ok () w := by
  unfold eqGuard
  cases X <;> cases Y <;> simp [isC] at h <;> cases op <;> rfl

include HT in
theorem ok_bin {w : World} {C : Cz} {σ : List AObj} (hI : Inv w C σ) {op : BinOp} {t : Nat} {X Y : Operand} {u v : Value} {x y : Val} (hx : RepV w C u x) (hy : RepV w C v y) {K : Val → List AObj → Prop}
    (hk : aBin T op t x y (isC X || isC Y) (fun z => K z σ)) : OK1 P (do eqGuard op t X Y u v; binOp op t u v) w C σ K := by
  have fin : ∀ (hg : (eqGuard op t X Y u v).run P w = .ok () w) (h : ∃ r z, (binOp op t u v).run P w = .ok r w ∧ K z σ ∧ RepV w C r z), OK1 P (do eqGuard op t X Y u v; binOp op t u v) w C σ K := by
    rintro hg ⟨r, z, h1, h2, h3⟩
    exact OK1.same hI (by rw [Sem.run_bind, hg]; exact h1) h2 h3
  unfold aBin at hk
  split at hk
  · rename_i k a k' b
    cases hn : ikEq k k' with
    | false => rw [hn] at hk; exact hk.elim
    | true =>
    rw [hn] at hk
    have := ikEq_eq hn
    subst this
    have h1 := int_of hx
    have h2 := int_of hy
    subst h1; subst h2
    exact fin (guard_not _ _ _ _ _ _ _ (by simp) (by simp)) (run_iBin hk)
  · have h1 := str_of hx
    have h2 := str_of hy
    subst h1; subst h2
    exact fin (guard_not _ _ _ _ _ _ _ (by simp) (by simp)) (run_sBin hk)
  · rename_i a b
    have e1 := bool_of hx
    have e2 := bool_of hy
    subst e1; subst e2
    split at hk
    · rename_i i hi
      obtain ⟨info, d, z, h1, h2, h3, h4, h6, h7, h8, h9, h10, h11, h12⟩ := ti_parts (HT.ti t i hi)
      split at hk
      · rename_i hik
        rw [hik] at h3
        obtain rfl : d = .bool := by cases d <;> first | (cases h3; done) | rfl
        refine fin (guard_not _ _ _ _ _ _ _ (by simp) (by simp)) ⟨.bool (a == b), _, ?_, hk, .c _ _ (.d _ _ (.bool _))⟩
        have := eq_bool h2 w 9999 a b
        simp only [binOp, Sem.run_bind]
        show (((Op.equalIn (9999 + 1) t (.bool a) (.bool b)).run P w).andThen _) = _
        rw [this]; rfl
      · rename_i hik
        rw [hik] at h3
        obtain rfl : d = .bool := by cases d <;> first | (cases h3; done) | rfl
        refine fin (guard_not _ _ _ _ _ _ _ (by simp) (by simp)) ⟨.bool (!(a == b)), _, ?_, hk, .c _ _ (.d _ _ (.bool _))⟩
        have := eq_bool h2 w 9999 a b
        simp only [binOp, Sem.run_bind]
        show (((Op.equalIn (9999 + 1) t (.bool a) (.bool b)).run P w).andThen _) = _
        rw [this]; rfl
      · exact hk.elim
    · exact hk.elim
  · split at hk
    · rename_i i hi
      obtain ⟨info, d, z, h1, h2, h3, h4, h6, h7, h8, h9, h10, h11, h12⟩ := ti_parts (HT.ti t i hi)
      cases hn : isNilConst y i.k with
      | false => rw [hn] at hk; exact hk.elim
      | true =>
      rw [hn] at hk
      simp only [cond_true] at hk
      unfold nBin at hk
      cases hc : (isC X || isC Y) && fitsK x i.k with
      | false => rw [hc] at hk; exact hk.elim
      | true =>
      rw [hc] at hk
      simp only [cond_true] at hk
      simp only [Bool.and_eq_true] at hc
      obtain ⟨hc, hf⟩ := hc
      split at hk
      · rename_i b hb
        have heq := run_equal_nil h2 h3 hx hy hf hn hb 9999
        have hyv : v = .slice none 0 0 ∨ v = .pointer none ∨ v = .nilIface ∨ v = .nilFunc := by
          unfold isNilConst at hn
          split at hn
          case h_5 => cases hn
          all_goals
            have hd := repA_d (c_of hy)
            cases hd
            simp
        have hg : (eqGuard op t X Y u v).run P w = .ok () w := by
          by_cases hu : u = .nilIface ∧ v = .nilIface
          · obtain ⟨rfl, rfl⟩ := hu
            exact guard_nil op t X Y w hc
          · exact guard_not _ _ _ _ _ _ _ hu (by rintro ⟨p, q, _, rfl⟩; simp at hyv)
        have hbe : (binOp .eql t u v) = (do pure (.bool (← Op.equal t u v))) := by
          rcases hyv with rfl | rfl | rfl | rfl <;> cases u <;> rfl
        have hbn : (binOp .neq t u v) = (do pure (.bool (!(← Op.equal t u v)))) := by
          rcases hyv with rfl | rfl | rfl | rfl <;> cases u <;> rfl
        split at hk
        · refine fin hg ⟨.bool b, _, ?_, hk, .c _ _ (.d _ _ (.bool _))⟩
          rw [hbe, Sem.run_bind]
          show (((Op.equalIn (9999 + 1) t u v).run P w).andThen _) = _
          rw [heq]; rfl
        · refine fin hg ⟨.bool (!b), _, ?_, hk, .c _ _ (.d _ _ (.bool _))⟩
          rw [hbn, Sem.run_bind]
          show (((Op.equalIn (9999 + 1) t u v).run P w).andThen _) = _
          rw [heq]; rfl
        · exact hk.elim
      · exact hk.elim
    · exact hk.elim

end
end Go.Proofs.YtmaokphbfjpodaaGreatDoor.E

/- The engine, part 9: the other operations without calls: signs, conversions, interfaces, cuts, appends, lengths. No conditions. -/
set_option linter.unusedVariables false
set_option linter.unusedSimpArgs false
namespace Go.Proofs.YtmaokphbfjpodaaGreatDoor.E
open Go

section
variable {P : Program} {T : Tab} (HT : TabOk P T)

def aUn (op : UnOp) (x : Val) (K : Val → Prop) : Prop :=
  match op, x with
  | .neg, .c (.d (.int k n)) => K (.c (.d (.int k (k.wrap (0 - n)))))
  | .not, .c (.d (.bool b)) => K (.c (.d (.bool (!b))))
  | _, _ => False

theorem ok_un {w : World} {C : Cz} {σ : List AObj} (hI : Inv w C σ) {op : UnOp} {u : Value} {x : Val} (hx : RepV w C u x) {K : Val → List AObj → Prop} (hk : aUn op x (fun z => K z σ)) : OK1 P (Op.unary op u) w C σ K := by
  unfold aUn at hk
  split at hk
  · have := int_of hx
    subst this
    exact OK1.same hI (by simp [Op.unary, Op.intArith]) hk (.c _ _ (.d _ _ (.int _ _)))
  · have := bool_of hx
    subst this
    exact OK1.same hI (by simp [Op.unary]) hk (.c _ _ (.d _ _ (.bool _)))
  · exact hk.elim

def aConv (T : Tab) (ρ : Nat) (σ : List AObj) (src dst : Nat) (x : Val) (K : Val → List AObj → Prop) : Prop :=
  match T.ti src, T.ti dst with
  | some i, some j => match i.k, j.k, x with
    | .int _, .int k, .c (.d (.int _ n)) => K (.c (.d (.int k (k.wrap n)))) σ
    | .str, .str, .c (.d (.str s)) => K (.c (.d (.str s))) σ
    | .str, .sl e, .c (.d (.str s)) => match T.ti e with
      | some l => match l.k with
        | .int .u8 => bif rOk ρ 1 then K (.c (.d (.sl ρ 1 (s.data.toList.map fun b => [.int .u8 b.toNat])))) σ else False
        | _ => False
      | none => False
    | _, _, _ => False
  | _, _ => False

theorem kind_int {k : IntKind} {d : TypeDesc} (h : kindOk (.int k) d = true) : d = .int k := by
  cases d <;> first | (cases h; done) | (simp [kindOk] at h; subst h; rfl)

theorem freeze_heap (w : World) (b o : Nat) (c : Array Value) (e : TypeId) (h : w.heap[b]? = some (.cells c e (0, 0))) : ∃ fz, (w.freeze ⟨b, o, none⟩ 1).heap[b]? = some (.cells c e fz) := by
  have hlt : b < w.heap.size := (Array.getElem?_eq_some_iff.1 h).1
  have hv : w.heap[b] = .cells c e (0, 0) := (Array.getElem?_eq_some_iff.1 h).2
  refine ⟨(o, o + 1), ?_⟩
  simp only [World.freeze, Nat.one_ne_zero, if_false]
  rw [Array.getElem?_modify, if_pos rfl, h]
  rfl
theorem freeze_other (w : World) (b o k : Nat) (h : k ≠ b) : (w.freeze ⟨b, o, none⟩ 1).heap[k]? = w.heap[k]? := by
  simp [World.freeze, Array.getElem?_modify, Ne.symm h]

include HT in
theorem ok_conv {w : World} {C : Cz} {σ : List AObj} (ρ : Nat) (hI : Inv w C σ) {src dst : Nat} {u : Value} {x : Val} (hx : RepV w C u x) {K : Val → List AObj → Prop} (hk : aConv T ρ σ src dst x K) :
    OK1 P (convert src dst u) w C σ K := by
  unfold aConv at hk
  split at hk
  · rename_i i j hi hj
    obtain ⟨_, d, _, h1, h2, h3, _⟩ := ti_parts (HT.ti src i hi)
    obtain ⟨_, d', _, g1, g2, g3, _⟩ := ti_parts (HT.ti dst j hj)
    split at hk
    · rename_i _ k _ n hik hjk
      rw [hjk] at g3
      have := kind_int g3
      subst this
      rw [hik] at h3
      have := kind_int h3
      subst this
      have := int_of hx
      subst this
      exact OK1.same hI (by simp [convert, run_underlying h2, run_underlying g2, Conv.intToInt]) hk (.c _ _ (.d _ _ (.int _ _)))
    · rename_i s hik hjk
      rw [hjk] at g3
      have := kind_str g3
      subst this
      rw [hik] at h3
      have := kind_str h3
      subst this
      have := str_of hx
      subst this
      exact OK1.same hI (by simp [convert, run_underlying h2, run_underlying g2]) hk (.c _ _ (.d _ _ (.str _)))
    · rename_i e s hik hjk
      rw [hjk] at g3
      have := kind_sl g3
      subst this
      rw [hik] at h3
      have := kind_str h3
      subst this
      have := str_of hx
      subst this
      split at hk
      · rename_i l hl
        split at hk
        · rename_i hlk
          obtain ⟨_, de, _, k1, k2, k3, _⟩ := ti_parts (HT.ti e l hl)
          rw [hlk] at k3
          have := kind_int k3
          subst this
          obtain ⟨hρ, hk⟩ := bif_and hk
          let cap := (Question.appendCap s.size 0 e).cut (w.tape w.drawn (.appendCap s.size 0 e))
          let arr : Array Value := (s.data.map fun b => Value.int .u8 b.toNat) ++ Array.replicate (cap - s.size) (.int .u8 0)
          have hcap : s.size ≤ cap := by simp [cap, Question.cut]
          let w1 : World := w.drew.alloc (.cells arr e)
          have hnew : w1.heap[w.heap.size]? = some (.cells arr e (0, 0)) := alloc_new w.drew _
          obtain ⟨fz, hf⟩ := freeze_heap w1 w.heap.size arr.size arr e hnew
          have hsz : w.heap.size < (w1.freeze ⟨w.heap.size, arr.size, none⟩ 1).heap.size := by simp [World.freeze, w1]
          have hold : ∀ b, b < w.heap.size → (w1.freeze ⟨w.heap.size, arr.size, none⟩ 1).heap[b]? = w.heap[b]? := fun b hb => by
            rw [freeze_other _ _ _ _ (by omega)]
            exact alloc_old w.drew _ hb
          refine ⟨.slice (some ⟨w.heap.size, 0, none⟩) s.size cap, w1.freeze ⟨w.heap.size, arr.size, none⟩ 1, C.reg w.heap.size ρ, _, σ, ?_, hk, (hI.reg ρ hsz hold).2, Ext.reg hI ρ rfl rfl rfl hsz hold, .c _ _ (.d _ _ ?_)⟩
          · have hsh : w1.shape? w.heap.size = some (e, arr.size) := by simp [World.shape?, hnew]
            have hsh' : (w.drew.alloc (.cells arr e)).shape? w.heap.size = some (e, arr.size) := hsh
            simp only [convert, Sem.run_bind, run_underlying h2 w, run_underlying g2 w, Result.andThen_ok]
            simp only [run_underlying k2 w, Sem.run_bind, Result.andThen_ok, Conv.stringToBytes, run_choose]
            simp only [Question.forced, Bool.false_eq_true, if_false, Result.andThen_ok, newRow, Sem.run_bind, run_newObj, Sem.run_pure, World.alloc_eq, World.drew_eq, markStringish, run_shape, World.size_drew]
            rw [show (w.drew.alloc (Obj.cells (Array.map (fun b => Value.int IntKind.u8 ↑b.toNat) s.data ++ Array.replicate ((Question.appendCap s.size 0 e).cut (w.tape w.drawn (Question.appendCap s.size 0 e)) - s.size) (Value.int IntKind.u8 0)) e)).shape? w.heap.size = some (e, arr.size) from hsh']
            rfl
          · have hlen : (s.data.toList.map fun b => [DV.int .u8 b.toNat]).length = s.size := by simp
            refine .sl ρ 1 w.heap.size 0 s.size cap _ arr e fz (fun j i => (arr[j]?).getD undef) ⟨⟨ρ, by simp [Cz.reg], rOk_w hρ, .inl rfl⟩, fun hr => absurd (rOk_sz hρ hr) (by rcases hr with rfl | rfl <;> decide)⟩ hf hlen.symm hcap (fun row hrow => ?_) (fun j i hj hi => ?_) (fun j i row x hj hi => ?_)
            · obtain ⟨b, _, rfl⟩ := List.mem_map.1 hrow; rfl
            · have : i = 0 := by omega
              subst this
              have : j < arr.size := by simp [arr]; have : s.data.size = s.size := rfl; omega
              simp [Array.getElem?_eq_getElem this]
            · rw [List.getElem?_map] at hj
              cases hb : s.data.toList[j]? with
              | none => rw [hb] at hj; cases hj
              | some b =>
                rw [hb] at hj
                cases hj
                cases i with
                | succ i => simp at hi
                | zero =>
                  simp at hi; subst hi
                  rw [Array.getElem?_toList] at hb
                  have hlt : j < s.data.size := (Array.getElem?_eq_some_iff.1 hb).1
                  have : arr[j]? = some (.int .u8 b.toNat) := by
                    simp only [arr]
                    rw [Array.getElem?_append_left (by simpa using hlt)]
                    simp [hb]
                  rw [this]
                  exact .int _ _
        · exact hk.elim
      · exact hk.elim
    · exact hk.elim
  · exact hk.elim

def aExtract (x : Val) (k : Nat) (K : Val → Prop) : Prop :=
  match x with
  | .tup vs => match vs[k]? with | some y => K y | none => False
  | _ => False

theorem ok_extract {w : World} {C : Cz} {σ : List AObj} (hI : Inv w C σ) {k : Nat} {u : Value} {x : Val} (hx : RepV w C u x) {K : Val → List AObj → Prop} (hk : aExtract x k (fun z => K z σ)) : OK1 P (Instr.extract u k) w C σ K := by
  unfold aExtract at hk
  split at hk
  · split at hk
    · rename_i y hy
      cases hx with
      | tup arr vs hs h =>
        have hlt : k < arr.size := by have := (List.getElem?_eq_some_iff.1 hy).1; omega
        refine OK1.same hI (v := arr[k]) ?_ hk (h k _ y (Array.getElem?_eq_getElem hlt) hy)
        simp [Instr.extract, hlt]
    · exact hk.elim
  · exact hk.elim

/-! ### Interfaces -/
def aMkIfc (T : Tab) (t : Nat) (x : Val) (K : Val → Prop) : Prop :=
  match T.ti t with
  | some i => match i.k with
    | .ifc => False
    | .other => False
    | _ => match x with
      | .c a => K (.c (.ifc t a))
      | .agg cs => K (.c (.ifa t cs))
      | _ => False
  | none => False

include HT in
theorem ok_mkIfc {w : World} {C : Cz} {σ : List AObj} (hI : Inv w C σ) {t : Nat} {u : Value} {x : Val} (hx : RepV w C u x) {K : Val → List AObj → Prop} (hk : aMkIfc T t x (fun z => K z σ)) : OK1 P (Instr.makeInterface t u) w C σ K := by
  unfold aMkIfc at hk
  split at hk
  · rename_i i hi
    obtain ⟨_, d, _, h1, h2, h3, _⟩ := ti_parts (HT.ti t i hi)
    have hrun : i.k ≠ .ifc → i.k ≠ .other → (Instr.makeInterface t u).run P w = .ok (.iface t u) w := fun n1 n2 => by
      simp only [Instr.makeInterface, Sem.run_bind, run_underlying h2 w, Result.andThen_ok]
      cases hik : i.k <;> rw [hik] at h3 <;> cases d <;> first | (cases h3; done) | rfl | (exact absurd hik n1) | (exact absurd hik n2)
    split at hk
    · exact hk.elim
    · exact hk.elim
    · rename_i n1 n2
      split at hk
      · exact OK1.same hI (hrun n1 n2) hk (.c _ _ (.ifc t _ _ (c_of hx)))
      · cases hx with
        | agg arr cs hr =>
          refine OK1.same hI (hrun n1 n2) hk (.c _ _ (.ifa t arr _ (fun i => (arr[i]?).getD undef) (by have := hr.1; simpa using this) (fun i hi => ?_) (fun i x hx => ?_)))
          · have := hr.1
            simp at this
            rw [Array.getElem?_eq_getElem (by omega)]; rfl
          · have hl := hr.1
            simp at hl
            have hi := (List.getElem?_eq_some_iff.1 hx).1
            have e : arr[i]? = some (arr[i]'(by omega)) := Array.getElem?_eq_getElem _
            rw [e]
            exact hr.2 i _ x (by rw [Array.getElem?_toList]; exact e) hx
      · exact hk.elim
  · exact hk.elim

def zeroV (i : TI) : Val := bif i.agg then .agg (i.zero.map .d) else (match i.zero with | x :: _ => .c (.d x) | [] => .junk)

def aAssert (T : Tab) (x : Val) (t : Nat) (ok : Bool) (K : Val → Prop) : Prop :=
  match T.ti t with
  | some i => match i.k with
    | .ifc => False
    | .other => False
    | _ => bif ok then (match x with
        | .c (.ifc t' a) => bif natEq t' t then K (.tup [.c a, .c (.d (.bool true))]) else K (.tup [zeroV i, .c (.d (.bool false))])
        | .c (.ifa t' cs) => bif natEq t' t then K (.tup [.agg cs, .c (.d (.bool true))]) else K (.tup [zeroV i, .c (.d (.bool false))])
        | .c (.d (.ifc t' a)) => bif natEq t' t then K (.tup [.c (.d a), .c (.d (.bool true))]) else K (.tup [zeroV i, .c (.d (.bool false))])
        | .c (.d (.ifa t' cs)) => bif natEq t' t then K (.tup [.agg (cs.map .d), .c (.d (.bool true))]) else K (.tup [zeroV i, .c (.d (.bool false))])
        | .c (.d .nili) => K (.tup [zeroV i, .c (.d (.bool false))])
        | _ => False) else False
  | none => False

theorem tup2 {w : World} {C : Cz} {u v : Value} {x y : Val} (hx : RepV w C u x) (hy : RepV w C v y) : RepV w C (.tuple #[u, v]) (.tup [x, y]) :=
  .tup _ _ rfl fun i a b h1 h2 => by
    match i with
    | 0 => simp at h1 h2; subst h1; subst h2; exact hx
    | 1 => simp at h1 h2; subst h1; subst h2; exact hy
    | n + 2 => simp at h2

theorem zeroV_rep {w : World} {C : Cz} {i : TI} {z : Value} (h9 : allZ i.zero z.cells.toList = true) (h12 : i.agg = true ↔ ∃ arr, z = .agg arr) : RepV w C z (zeroV i) := by
  have hr := allZ_rep (w := w) (C := C) h9
  unfold zeroV
  cases ha : i.agg with
  | true =>
    obtain ⟨arr, rfl⟩ := h12.1 ha
    exact .agg arr _ hr
  | false =>
    have h1 : z.cells = #[z] := by
      cases z <;> first | rfl | (have := h12.2 ⟨_, rfl⟩; rw [ha] at this; cases this)
    rw [h1] at hr
    simp only [cond_false]
    split
    · rename_i x l hz
      rw [hz] at hr
      exact .c _ _ (hr.2 0 z _ rfl rfl)
    · exact .junk _

include HT in
theorem ok_assert {w : World} {C : Cz} {σ : List AObj} (hI : Inv w C σ) {t xt : Nat} {ok : Bool} {u : Value} {x : Val} (hx : RepV w C u x) {K : Val → List AObj → Prop} (hk : aAssert T x t ok (fun z => K z σ)) :
    OK1 P (Instr.typeAssert u xt t ok) w C σ K := by
  unfold aAssert at hk
  split at hk
  · rename_i i hi
    obtain ⟨info, d, z, h1, h2, h3, h4, h6, h7, h8, h9, h10, h11, h12⟩ := ti_parts (HT.ti t i hi)
    split at hk
    · exact hk.elim
    · exact hk.elim
    · rename_i n1 n2
      cases hok : ok with
      | false => rw [hok] at hk; exact hk.elim
      | true =>
      rw [hok] at hk
      simp only [cond_true] at hk
      have hz : RepV w C z (zeroV i) := zeroV_rep h9 h12
      have hnil : (Instr.typeAssert .nilIface xt t true).run P w = .ok (.tuple #[z, .bool false]) w := by
        simp only [Instr.typeAssert, Sem.run_bind, run_underlying h2 w, Result.andThen_ok]
        cases hik : i.k <;> rw [hik] at h3 <;> cases d <;> first | (cases h3; done) | (exact absurd hik n1) | (exact absurd hik n2) | (simp [zeroValue, typeInfo, h1, h8])
      have hif : ∀ q v, (Instr.typeAssert (.iface q v) xt t true).run P w = .ok (if q = t then .tuple #[v, .bool true] else .tuple #[z, .bool false]) w := fun q v => by
        simp only [Instr.typeAssert, Sem.run_bind, run_underlying h2 w, Result.andThen_ok]
        cases hik : i.k <;> rw [hik] at h3 <;> cases d <;> first | (cases h3; done) | (exact absurd hik n1) | (exact absurd hik n2) | (by_cases hq : q = t <;> simp [zeroValue, typeInfo, h1, h8, hq])
      have go : ∀ q v y, RepV w C v y → (bif natEq q t then K (.tup [y, .c (.d (.bool true))]) σ else K (.tup [zeroV i, .c (.d (.bool false))]) σ) → OK1 P (Instr.typeAssert (.iface q v) xt t true) w C σ K := fun q v y hy hk => by
        have hr := hif q v
        cases hq : natEq q t with
        | true =>
          rw [hq] at hk
          rw [if_pos (natEq_eq hq)] at hr
          exact OK1.same hI hr hk (tup2 hy (.c _ _ (.d _ _ (.bool _))))
        | false =>
          rw [hq] at hk
          have hne : q ≠ t := fun e => by subst e; simp [natEq] at hq
          rw [if_neg hne] at hr
          exact OK1.same hI hr hk (tup2 hz (.c _ _ (.d _ _ (.bool _))))
      split at hk
      · have h := c_of hx
        cases h with
        | ifc q v a h => exact go _ v _ (.c _ _ h) hk
      · have h := c_of hx
        cases h with
        | ifa q arr cs vs hs hcell hrep =>
          refine go _ (.agg arr) _ (.agg arr _ ⟨by simpa using hs, fun i u a h1 h2 => ?_⟩) hk
          have hi := (List.getElem?_eq_some_iff.1 h2).1
          have := hcell i hi
          rw [Array.getElem?_toList, this] at h1
          cases h1
          exact hrep i a h2
      · have h := repA_d (c_of hx)
        cases h with
        | ifc q v a h => exact go _ v _ (.c _ _ (.d _ _ h)) hk
      · have h := repA_d (c_of hx)
        cases h with
        | ifa q arr cs vs hs hcell hrep =>
          refine go _ (.agg arr) _ (.agg arr _ (RepL.ofD (by simpa using hs) fun i u a h1 h2 => ?_)) hk
          have hi := (List.getElem?_eq_some_iff.1 h2).1
          have := hcell i hi
          rw [Array.getElem?_toList, this] at h1
          cases h1
          exact hrep i a h2
      · have h := repA_d (c_of hx)
        cases h
        exact OK1.same hI hnil hk (tup2 hz (.c _ _ (.d _ _ (.bool _))))
      · exact hk.elim
  · exact hk.elim

/-! ### Lengths, greater and less -/
def aLen (x : Val) (K : Val → Prop) : Prop :=
  match x with
  | .c (.d (.str s)) => K (.c (.d (.int .i64 s.size)))
  | .c (.d (.sl _ _ rows)) => K (.c (.d (.int .i64 rows.length)))
  | .c (.d (.wsl _ rows)) => K (.c (.d (.int .i64 rows.length)))
  | .c (.full _ _ rows) => K (.c (.d (.int .i64 rows.length)))
  | .c (.own _ n) => K (.c (.d (.int .i64 n)))
  | .c (.d .nils) => K (.c (.d (.int .i64 0)))
  | .c .emp => K (.c (.d (.int .i64 0)))
  | _ => False

def lenTy (T : Tab) (t : Nat) (x : Val) : Bool :=
  match T.ti t with
  | some i => match i.k, x with
    | .str, .c (.d (.str _)) => true
    | .sl _, .c (.d (.str _)) => false
    | .sl _, _ => true
    | _, _ => false
  | none => false

theorem sl_len {w : World} {C : Cz} {u : Value} {x : Val} (hx : RepV w C u x) {K : Val → Prop} (hk : aLen x K) (hs : ∀ s, x ≠ .c (.d (.str s))) : ∃ A n c, u = .slice A n c ∧ K (.c (.d (.int .i64 (n : Int)))) := by
  unfold aLen at hk
  split at hk
  · exact absurd rfl (hs _)
  · have h := repA_d (c_of hx)
    cases h with
    | sl0 => exact ⟨_, _, _, rfl, hk⟩
    | sl r sz b o n c rows cs e fz vs hr hh hn hc hsz hcell hrep => exact ⟨_, _, _, rfl, by rw [hn]; exact hk⟩
  · have h := repA_d (c_of hx)
    cases h with
    | wsl0 => exact ⟨_, _, _, rfl, hk⟩
    | wsl k b n c rows cs e told vs hr hh hn hc hsz hcell hsp hrep => exact ⟨_, _, _, rfl, by rw [hn]; exact hk⟩
  · have h := c_of hx
    cases h with
    | full A n r sz rows hn h => exact ⟨_, _, _, rfl, by rw [← hn]; exact hk⟩
  · have h := c_of hx
    cases h with
    | own o n e he hr hn A c hv => exact ⟨_, _, _, rfl, hk⟩
  · have h := repA_d (c_of hx)
    cases h
    exact ⟨_, _, _, rfl, hk⟩
  · have h := c_of hx
    cases h
    exact ⟨_, _, _, rfl, hk⟩
  · exact hk.elim

include HT in
theorem ok_len {w : World} {C : Cz} {σ : List AObj} (hI : Inv w C σ) {t ty : Nat} {u : Value} {x : Val} (hx : RepV w C u x) {K : Val → List AObj → Prop} (ht : lenTy T t x = true) (hk : aLen x (fun z => K z σ)) :
    OK1 P (Builtin.len_ #[t] ty #[u]) w C σ K := by
  unfold lenTy at ht
  split at ht
  · rename_i i hi
    obtain ⟨_, d, _, h1, h2, h3, _⟩ := ti_parts (HT.ti t i hi)
    split at ht
    · rename_i hik
      rw [hik] at h3
      have := kind_str h3
      subst this
      have := str_of hx
      subst this
      exact OK1.same hI (by simp [Builtin.len_, run_underlying h2, goInt]) hk (.c _ _ (.d _ _ (.int _ _)))
    · cases ht
    · rename_i hik hns
      rw [hik] at h3
      have := kind_sl h3
      subst this
      obtain ⟨A, n, c, rfl, hk⟩ := sl_len hx hk (fun s e => by subst e; exact hns s rfl)
      exact OK1.same hI (by simp [Builtin.len_, run_underlying h2, goInt]) hk (.c _ _ (.d _ _ (.int _ _)))
    · cases ht
  · cases ht

def aMax (x y : Val) (K : Val → Prop) : Prop :=
  match x, y with
  | .c (.d (.int k a)), .c (.d (.int k' b)) => bif ikEq k k' then K (.c (.d (.int k (max a b)))) else False
  | _, _ => False
def aMin (x y : Val) (K : Val → Prop) : Prop :=
  match x, y with
  | .c (.d (.int k a)), .c (.d (.int k' b)) => bif ikEq k k' then K (.c (.d (.int k (min a b)))) else False
  | _, _ => False

theorem ok_max {w : World} {C : Cz} {σ : List AObj} (hI : Inv w C σ) {ts : Array Nat} {ty : Nat} {u v : Value} {x y : Val} (hx : RepV w C u x) (hy : RepV w C v y) {K : Val → List AObj → Prop} (hk : aMax x y (fun z => K z σ)) :
    OK1 P (Builtin.max_ ts ty #[u, v]) w C σ K := by
  unfold aMax at hk
  split at hk
  · rename_i k a k' b
    cases hn : ikEq k k' with
    | false => rw [hn] at hk; exact hk.elim
    | true =>
    rw [hn] at hk
    have h1 := int_of hx
    have h2 := int_of hy
    subst h1; subst h2
    refine OK1.same hI (v := .int k (max a b)) ?_ hk (.c _ _ (.d _ _ (.int _ _)))
    simp only [Builtin.max_, List.foldlM_cons, List.foldlM_nil, Builtin.max2, Sem.run_bind, Sem.run_pure, Result.andThen_ok]
    congr 2
    rw [Int.max_def]
    by_cases h : b > a
    · rw [if_pos h, if_pos (by omega)]
    · rw [if_neg h]
      by_cases h' : a ≤ b
      · rw [if_pos h']; omega
      · rw [if_neg h']
  · exact hk.elim
theorem ok_min {w : World} {C : Cz} {σ : List AObj} (hI : Inv w C σ) {ts : Array Nat} {ty : Nat} {u v : Value} {x y : Val} (hx : RepV w C u x) (hy : RepV w C v y) {K : Val → List AObj → Prop} (hk : aMin x y (fun z => K z σ)) :
    OK1 P (Builtin.min_ ts ty #[u, v]) w C σ K := by
  unfold aMin at hk
  split at hk
  · rename_i k a k' b
    cases hn : ikEq k k' with
    | false => rw [hn] at hk; exact hk.elim
    | true =>
    rw [hn] at hk
    have h1 := int_of hx
    have h2 := int_of hy
    subst h1; subst h2
    refine OK1.same hI (v := .int k (min a b)) ?_ hk (.c _ _ (.d _ _ (.int _ _)))
    simp only [Builtin.min_, List.foldlM_cons, List.foldlM_nil, Builtin.min2, Sem.run_bind, Sem.run_pure, Result.andThen_ok]
    congr 2
    rw [Int.min_def]
    by_cases h : b < a
    · rw [if_pos h, if_neg (by omega)]
    · rw [if_neg h, if_pos (by omega)]
  · exact hk.elim

end
end Go.Proofs.YtmaokphbfjpodaaGreatDoor.E

/- The engine, part 10: cuts, made slices, appends. No conditions. -/
set_option linter.unusedVariables false
set_option linter.unusedSimpArgs false
namespace Go.Proofs.YtmaokphbfjpodaaGreatDoor.E
open Go

section
variable {P : Program} {T : Tab} (HT : TabOk P T)

/-! ### Cuts -/
def intV (x : Val) (K : Int → Prop) : Prop := match x with | .c (.d (.int k n)) => K n | _ => False

def aSlice (T : Tab) (t : Nat) (x : Val) (lo hi mx : Option Val) (K : Val → Prop) : Prop :=
  match T.ti t with
  | some i => match i.k, x, lo, hi, mx with
    | .str, .c (.d (.str s)), none, some h, none => intV h fun b => (0 ≤ b ∧ b ≤ s.size) ∧ K (.c (.d (.str (s.extract 0 b.toNat))))
    | .str, .c (.d (.str s)), some l, none, none => intV l fun a => (0 ≤ a ∧ a ≤ s.size) ∧ K (.c (.d (.str (s.extract a.toNat s.size))))
    | .str, .c (.d (.str s)), some l, some h, none => intV l fun a => intV h fun b => (0 ≤ a ∧ a ≤ b ∧ b ≤ s.size) ∧ K (.c (.d (.str (s.extract a.toNat b.toNat))))
    | .sl e, .c (.d (.sl r sz rows)), none, some h, some m => match T.ti e with
      | some j => intV h fun b => intV m fun c => (b = rows.length ∧ c = rows.length) ∧ K (.c (.full r sz rows))
      | none => False
    | .sl e, .c (.d .nils), none, some h, some m => match T.ti e with
      | some j => intV h fun b => intV m fun c => (b = 0 ∧ c = 0) ∧ K (.c .emp)
      | none => False
    | .sl e, .c (.d (.sl r sz rows)), some l, none, none => match T.ti e with
      | some j => bif natEq j.sz sz && !(r == 1 || r == 4) then (intV l fun a => (0 ≤ a ∧ a ≤ rows.length) ∧ K (.c (.d (.sl r sz (rows.drop a.toNat))))) else False
      | none => False
    | .sl e, .c (.d (.sl r sz rows)), none, some h, none => match T.ti e with
      | some j => intV h fun b => (0 ≤ b ∧ b ≤ rows.length) ∧ K (.c (.d (.sl r sz (rows.take b.toNat))))
      | none => False
    | _, _, _, _, _ => False
  | none => False

theorem intV_of {w : World} {C : Cz} {v : Value} {x : Val} (hx : RepV w C v x) {K : Int → Prop} (hk : intV x K) : ∃ k n, v = .int k n ∧ K n := by
  unfold intV at hk
  split at hk
  · exact ⟨_, _, int_of hx, hk⟩
  · exact hk.elim

/-- A value that may not be there. -/
def RepO (w : World) (C : Cz) : Option Value → Option Val → Prop
  | none, none => True
  | some v, some x => RepV w C v x
  | _, _ => False

theorem sl_drop {w : World} {rg : Nat → Option Nat} {A : Option Addr} {m c r sz : Nat} {rows : List (List DV)} (h : RepD w rg (.slice A m c) (.sl r sz rows)) (h14 : (r == 1 || r == 4) = false) {a : Nat} (ha : a ≤ rows.length) :
    m = rows.length ∧ a ≤ c ∧ RepD w rg (.slice (if c = a then A else A.map (·.add (a * sz))) (m - a) (c - a)) (.sl r sz (rows.drop a)) := by
  cases h with
  | sl0 A r sz c =>
    have : a = 0 := by simpa using ha
    subst this
    refine ⟨rfl, by omega, ?_⟩
    have e : (if c = 0 then A else A.map (·.add (0 * sz))) = A := by
      split
      · rfl
      · cases A <;> simp [Addr.add]
    rw [e]
    exact .sl0 A r sz _
  | sl _ _ b o _ _ _ cs e fz vs hr hh hm hc hsz hcell hrep =>
    refine ⟨hm, by omega, ?_⟩
    by_cases hca : c = a
    · have : m - a = 0 := by omega
      rw [this, List.drop_eq_nil_of_le (by omega)]
      exact .sl0 _ _ _ _
    · rw [if_neg hca]
      simp only [Option.map_some, addr_add]
      refine .sl r sz b (o + a * sz) (m - a) (c - a) _ cs e fz (fun j i => vs (a + j) i) ⟨hr.1, fun h => by rcases h with rfl | rfl <;> cases h14⟩ hh (by simp; omega) (by omega) (fun row hrow => hsz row (List.mem_of_mem_drop hrow)) (fun j i hj hi => ?_) (fun j i row x hj hi => ?_)
      · have := hcell (a + j) i (by omega) hi
        rw [Nat.add_mul] at this
        rw [← this]; congr 1; omega
      · rw [List.getElem?_drop] at hj
        exact hrep (a + j) i row x hj hi

theorem sl_take {w : World} {rg : Nat → Option Nat} {A : Option Addr} {m c r sz : Nat} {rows : List (List DV)} (h : RepD w rg (.slice A m c) (.sl r sz rows)) {a : Nat} (ha : a ≤ rows.length) :
    m = rows.length ∧ a ≤ c ∧ RepD w rg (.slice A a c) (.sl r sz (rows.take a)) := by
  cases h with
  | sl0 A r sz c =>
    have : a = 0 := by simpa using ha
    subst this
    exact ⟨rfl, by omega, .sl0 A r sz _⟩
  | sl _ _ b o _ _ _ cs e fz vs hr hh hm hc hsz hcell hrep =>
    refine ⟨hm, by omega, ?_⟩
    refine .sl r sz b o a c _ cs e fz vs hr hh (by simp; omega) (by omega) (fun row hrow => hsz row (List.mem_of_mem_take hrow)) (fun j i hj hi => hcell j i (by omega) hi) (fun j i row x hj hi => ?_)
    rw [List.getElem?_take] at hj
    split at hj
    · exact hrep j i row x hj hi
    · cases hj

include HT in
theorem ok_slice {w : World} {C : Cz} {σ : List AObj} (hI : Inv w C σ) {t : Nat} {u : Value} {x : Val} {lo hi mx : Option Value} {lo' hi' mx' : Option Val} (hx : RepV w C u x) (hl : RepO w C lo lo') (hh : RepO w C hi hi') (hm : RepO w C mx mx')
    {K : Val → List AObj → Prop} (hk : aSlice T t x lo' hi' mx' (fun z => K z σ)) : OK1 P (Instr.sliceAt t u lo hi mx) w C σ K := by
  unfold aSlice at hk
  split at hk
  · rename_i i hti
    obtain ⟨_, d, _, h1, h2, h3, _⟩ := ti_parts (HT.ti t i hti)
    split at hk
    · rename_i s h hik
      rw [hik] at h3
      have := kind_str h3
      subst this
      have := str_of hx
      subst this
      cases lo <;> cases hi <;> cases mx <;> first | (exact hl.elim) | (exact hh.elim) | (exact hm.elim) | skip
      obtain ⟨k, n, rfl, ⟨b1, b2⟩, hk⟩ := intV_of hh hk
      exact OK1.same hI (by simp [Instr.sliceAt, run_underlying h2, Instr.slice, Instr.sliceBounds, Instr.sliceBound, asIntOf, b1, b2]) hk (.c _ _ (.d _ _ (.str _)))
    · rename_i s l hik
      rw [hik] at h3
      have := kind_str h3
      subst this
      have := str_of hx
      subst this
      cases lo <;> cases hi <;> cases mx <;> first | (exact hl.elim) | (exact hh.elim) | (exact hm.elim) | skip
      obtain ⟨k, n, rfl, ⟨b1, b2⟩, hk⟩ := intV_of hl hk
      exact OK1.same hI (by simp [Instr.sliceAt, run_underlying h2, Instr.slice, Instr.sliceBounds, Instr.sliceBound, asIntOf, b1, b2]) hk (.c _ _ (.d _ _ (.str _)))
    · rename_i s l h hik
      rw [hik] at h3
      have := kind_str h3
      subst this
      have := str_of hx
      subst this
      cases lo <;> cases hi <;> cases mx <;> first | (exact hl.elim) | (exact hh.elim) | (exact hm.elim) | skip
      obtain ⟨k, a, rfl, hk⟩ := intV_of hl hk
      obtain ⟨k', b, rfl, ⟨b1, b2, b3⟩, hk⟩ := intV_of hh hk
      have c1 : 0 ≤ b := by omega
      have c2 : ¬ (max b 0 < a) := by omega
      exact OK1.same hI (by simp [Instr.sliceAt, run_underlying h2, Instr.slice, Instr.sliceBounds, Instr.sliceBound, asIntOf, b1, b3, c1, c2]) hk (.c _ _ (.d _ _ (.str _)))
    · rename_i e r sz rows h m hik
      rw [hik] at h3
      have := kind_sl h3
      subst this
      cases lo <;> cases hi <;> cases mx <;> first | (exact hl.elim) | (exact hh.elim) | (exact hm.elim) | skip
      split at hk
      · rename_i j hj
        obtain ⟨ie, _, ze, k1, k2, k3, k4, _⟩ := ti_parts (HT.ti e j hj)
        obtain ⟨k, a, rfl, hk⟩ := intV_of hh hk
        obtain ⟨k', b, rfl, ⟨b1, b2⟩, hk2⟩ := intV_of hm hk
        subst b1; subst b2
        have hd := repA_d (c_of hx)
        obtain ⟨A, m', c, rfl⟩ : ∃ A m c, u = .slice A m c := by cases hd <;> exact ⟨_, _, _, rfl⟩
        obtain ⟨t1, t2, t3⟩ := sl_take hd (Nat.le_refl _)
        have hd2 : RepD w C.rg (.slice (if rows.length = 0 then A else A.map (·.add (0 * ie.size))) rows.length rows.length) (.sl r sz rows) := by
          have e0 : (if rows.length = 0 then A else A.map (·.add (0 * ie.size))) = A := by
            split
            · rfl
            · cases A <;> simp [Addr.add]
          rw [e0]
          cases hd with
          | sl0 => exact .sl0 _ _ _ _
          | sl _ _ b o _ _ _ cs e fz vs hr hh hm hc hsz hcell hrep => exact .sl _ _ b o _ _ _ cs e fz vs hr hh rfl (Nat.le_refl _) hsz (fun j i hj hi => hcell j i (by omega) hi) hrep
        refine OK1.same hI ?_ hk2 (.c _ _ (.full _ _ _ _ _ rfl hd2))
        have c1 : ((rows.length : Nat) : Int) ≤ (c : Int) := by omega
        have c2 : ¬ (c < rows.length) := by omega
        simp [Instr.sliceAt, run_underlying h2, Instr.slice, Instr.sliceBounds, Instr.sliceBound, asIntOf, c1, c2, sizeOf, typeInfo, k1]
      · exact hk.elim
    · rename_i e h m hik
      rw [hik] at h3
      have := kind_sl h3
      subst this
      cases lo <;> cases hi <;> cases mx <;> first | (exact hl.elim) | (exact hh.elim) | (exact hm.elim) | skip
      split at hk
      · rename_i j hj
        obtain ⟨ie, _, ze, k1, k2, k3, k4, _⟩ := ti_parts (HT.ti e j hj)
        obtain ⟨k, a, rfl, hk⟩ := intV_of hh hk
        obtain ⟨k', b, rfl, ⟨b1, b2⟩, hk2⟩ := intV_of hm hk
        subst b1; subst b2
        have hd := repA_d (c_of hx)
        cases hd
        refine OK1.same hI ?_ hk2 (.c _ _ (.emp none))
        simp [Instr.sliceAt, run_underlying h2, Instr.slice, Instr.sliceBounds, Instr.sliceBound, asIntOf, sizeOf, typeInfo, k1]
      · exact hk.elim
    · rename_i e r sz rows l hik
      rw [hik] at h3
      have := kind_sl h3
      subst this
      cases lo <;> cases hi <;> cases mx <;> first | (exact hl.elim) | (exact hh.elim) | (exact hm.elim) | skip
      split at hk
      · rename_i j hj
        obtain ⟨ie, _, ze, k1, k2, k3, k4, _⟩ := ti_parts (HT.ti e j hj)
        cases hn : natEq j.sz sz && !(r == 1 || r == 4) with
        | false => rw [hn] at hk; exact hk.elim
        | true =>
        rw [hn] at hk
        simp only [Bool.and_eq_true, Bool.not_eq_true'] at hn
        have hsz := natEq_eq hn.1
        obtain ⟨k, a, rfl, ⟨b1, b2⟩, hk⟩ := intV_of hl hk
        have hd := repA_d (c_of hx)
        obtain ⟨A, m', c, rfl⟩ : ∃ A m c, u = .slice A m c := by cases hd <;> exact ⟨_, _, _, rfl⟩
        obtain ⟨t1, t2, t3⟩ := sl_drop hd hn.2 (a := a.toNat) (by omega)
        refine OK1.same hI ?_ hk (.c _ _ (.d _ _ t3))
        have c1 : a ≤ (m' : Int) := by omega
        simp [Instr.sliceAt, run_underlying h2, Instr.slice, Instr.sliceBounds, Instr.sliceBound, asIntOf, b1, c1, sizeOf, typeInfo, k1, k4, hsz]
      · exact hk.elim
    · rename_i e r sz rows h hik
      rw [hik] at h3
      have := kind_sl h3
      subst this
      cases lo <;> cases hi <;> cases mx <;> first | (exact hl.elim) | (exact hh.elim) | (exact hm.elim) | skip
      split at hk
      · rename_i j hj
        obtain ⟨ie, _, ze, k1, k2, k3, k4, _⟩ := ti_parts (HT.ti e j hj)
        obtain ⟨k, a, rfl, ⟨b1, b2⟩, hk⟩ := intV_of hh hk
        have hd := repA_d (c_of hx)
        obtain ⟨A, m', c, rfl⟩ : ∃ A m c, u = .slice A m c := by cases hd <;> exact ⟨_, _, _, rfl⟩
        obtain ⟨t1, t2, t3⟩ := sl_take hd (a := a.toNat) (by omega)
        have hd2 : RepD w C.rg (.slice (if c = 0 then A else A.map (·.add (0 * ie.size))) a.toNat c) (.sl r sz (rows.take a.toNat)) := by
          have e0 : (if c = 0 then A else A.map (·.add (0 * ie.size))) = A := by
            split
            · rfl
            · cases A <;> simp [Addr.add]
          rw [e0]; exact t3
        refine OK1.same hI ?_ hk (.c _ _ (.d _ _ hd2))
        have c1 : a ≤ (c : Int) := by omega
        simp [Instr.sliceAt, run_underlying h2, Instr.slice, Instr.sliceBounds, Instr.sliceBound, asIntOf, b1, c1, sizeOf, typeInfo, k1]
      · exact hk.elim
    · exact hk.elim
  · exact hk.elim

end
end Go.Proofs.YtmaokphbfjpodaaGreatDoor.E

/- The engine, part 11: made slices, appends. No conditions. -/
set_option linter.unusedVariables false
set_option linter.unusedSimpArgs false
namespace Go.Proofs.YtmaokphbfjpodaaGreatDoor.E
open Go

section
variable {P : Program} {T : Tab} (HT : TabOk P T)

/-- Cells in a row that lie at an address and read as these rows. -/
structure Src (w : World) (rg : Nat → Option Nat) (a : Addr) (m sz : Nat) (rows : List (List DV)) (vals : List Value) : Prop where
  len : vals.length = m * sz
  mlen : m = rows.length
  at_ : ∀ (j : Nat) u, vals[j]? = some u → w.cell? (a.add j) = some u
  one : ∀ u, u ∈ vals → u.oneCell' = true
  wid : ∀ row, row ∈ rows → row.length = sz
  rep : ∀ (j i : Nat) row y, rows[j]? = some row → row[i]? = some y → ∃ v, vals[j * sz + i]? = some v ∧ RepD w rg v y

theorem src_sl {w : World} {rg : Nat → Option Nat} {A : Option Addr} {m c r sz : Nat} {rows : List (List DV)} (hz : 0 < sz) (h : RepD w rg (.slice A m c) (.sl r sz rows)) (hne : rows ≠ []) :
    ∃ a vals, A = some a ∧ Src w rg a m sz rows vals := by
  cases h with
  | sl0 => exact absurd rfl hne
  | sl _ _ b o _ _ _ cs e fz vs hr hh hm hc hsz hcell hrep =>
    let vals : List Value := (List.range (m * sz)).map fun k => vs (k / sz) (k % sz)
    have hv : ∀ (j : Nat) u, vals[j]? = some u → j < m * sz ∧ u = vs (j / sz) (j % sz) := fun j u hu => by
      simp only [vals, List.getElem?_map] at hu
      by_cases hj : j < m * sz
      · rw [List.getElem?_range hj] at hu
        simp at hu
        exact ⟨hj, hu.symm⟩
      · rw [List.getElem?_eq_none (by simpa using hj)] at hu; cases hu
    have hdiv : ∀ j, j < m * sz → j / sz < m ∧ j % sz < sz := fun j hj => ⟨Nat.div_lt_of_lt_mul (by rw [Nat.mul_comm]; exact hj), Nat.mod_lt _ hz⟩
    have hcellj : ∀ j, j < m * sz → cs[o + j]? = some (vs (j / sz) (j % sz)) := fun j hj => by
      have := hcell (j / sz) (j % sz) (hdiv j hj).1 (hdiv j hj).2
      rw [Nat.add_assoc, Nat.div_add_mod' j sz] at this
      exact this
    have hrepj : ∀ j, j < m * sz → ∃ y, RepD w rg (vs (j / sz) (j % sz)) y := fun j hj => by
      obtain ⟨d1, d2⟩ := hdiv j hj
      have h1 : rows[j / sz]? = some (rows[j / sz]'(by omega)) := List.getElem?_eq_getElem _
      have h2 := hsz _ (List.mem_of_getElem? h1)
      exact ⟨_, hrep _ _ _ _ h1 (List.getElem?_eq_getElem (by omega))⟩
    refine ⟨⟨b, o, none⟩, vals, rfl, by simp [vals], hm, fun j u hu => ?_, fun u hu => ?_, hsz, fun j i row y hj hi => ?_⟩
    · obtain ⟨h1, h2⟩ := hv j u hu
      rw [addr_add]
      simp [World.cell?, hh, hcellj j h1, h2]
    · obtain ⟨j, hj⟩ := List.getElem?_of_mem hu
      obtain ⟨h1, h2⟩ := hv j u hj
      obtain ⟨y, hy⟩ := hrepj j h1
      rw [h2]; exact hy.oneCell
    · have hjl := (List.getElem?_eq_some_iff.1 hj).1
      have hil := (List.getElem?_eq_some_iff.1 hi).1
      have hrl := hsz row (List.mem_of_getElem? hj)
      have hlt : j * sz + i < m * sz := by
        have : j * sz + sz ≤ m * sz := by rw [← Nat.succ_mul]; exact Nat.mul_le_mul_right _ (by omega)
        omega
      have e1 : (j * sz + i) / sz = j := by rw [Nat.mul_comm, Nat.mul_add_div hz, Nat.div_eq_of_lt (by omega)]; rfl
      have e2 : (j * sz + i) % sz = i := by rw [Nat.mul_comm, Nat.mul_add_mod, Nat.mod_eq_of_lt (by omega)]
      refine ⟨vs j i, ?_, hrep j i row y hj hi⟩
      simp only [vals, List.getElem?_map]
      rw [List.getElem?_range hlt]
      simp [e1, e2]

theorem src_own {w : World} {C : Cz} {σ : List AObj} (hI : Inv w C σ) {o e sz : Nat} {rows : List (List DV)} (ho : σ[o]? = some (.row e sz rows)) {A : Option Addr} {m c : Nat} (hv : RepA w C (.slice A m c) (.own o rows.length)) (hne : rows ≠ []) :
    ∃ a vals, A = some a ∧ Src w C.rg a m sz rows vals := by
  cases hv with
  | own _ _ en he hr hn A c hval =>
  obtain ⟨g1, g2, g3, g4, g5, xs, g6, g7⟩ := hI.ok o _ en ho he
  have hval := hval g2.symm
  rcases g6.2 with ⟨h1, h2⟩ | ⟨g, cap, cur, h1, _, h3, h4, h5, h6, h7⟩
  · exact absurd (List.eq_nil_of_length_eq_zero h2) hne
  · rw [h1] at hval
    cases hval
    have hxs : ∀ (j : Nat) u, xs[j]? = some u → w.cell? ((⟨g, 0, none⟩ : Addr).add j) = some u := g6.cells (g := g) (by rw [h1]; rfl)
    have hall : ∀ (k : Nat) u, xs[k]? = some u → ∃ y, RepD w C.rg u y := fun k u hu => by
      have hk : k < rows.length * sz := by rw [← g6.1]; exact (List.getElem?_eq_some_iff.1 hu).1
      have d1 : k / sz < rows.length := Nat.div_lt_of_lt_mul (by rw [Nat.mul_comm]; exact hk)
      have d2 : k % sz < sz := Nat.mod_lt _ g4
      have r1 : rows[k / sz]? = some rows[k / sz] := List.getElem?_eq_getElem d1
      have r2 := g5 _ (List.mem_of_getElem? r1)
      obtain ⟨v, hv, hr⟩ := g7 (k / sz) (k % sz) _ _ r1 (List.getElem?_eq_getElem (by omega))
      rw [Nat.div_add_mod' k sz, hu] at hv
      cases hv
      exact ⟨_, hr⟩
    refine ⟨⟨g, 0, none⟩, xs, rfl, g6.1, rfl, hxs, fun u hu => ?_, g5, g7⟩
    obtain ⟨k, hk⟩ := List.getElem?_of_mem hu
    obtain ⟨y, hy⟩ := hall k u hk
    exact hy.oneCell

/-- What is appended: no rows, or a source. -/
def IsSrc (w : World) (C : Cz) (u : Value) (sz : Nat) (rows : List (List DV)) : Prop :=
  (rows = [] ∧ ∃ A c, u = .slice A 0 c) ∨ (rows ≠ [] ∧ ∃ a m c vals, u = .slice (some a) m c ∧ Src w C.rg a m sz rows vals)

def srcRows (σ : List AObj) (sz : Nat) (x : Val) (K : List (List DV) → Prop) : Prop :=
  match x with
  | .c (.d (.sl r s rows)) => bif natEq s sz then K rows else False
  | .c (.full r s rows) => bif natEq s sz then K rows else False
  | .c (.d .nils) => K []
  | .c .emp => K []
  | .c (.own o n) => match σ[o]? with
    | some (.row e s rows) => bif natEq s sz then (n = rows.length ∧ K rows) else False
    | _ => False
  | _ => False

theorem srcRows_ok {w : World} {C : Cz} {σ : List AObj} (hI : Inv w C σ) {u : Value} {x : Val} (hx : RepV w C u x) {sz : Nat} (hz : 0 < sz) {K : List (List DV) → Prop} (hk : srcRows σ sz x K) : ∃ rows, K rows ∧ IsSrc w C u sz rows := by
  unfold srcRows at hk
  split at hk
  · rename_i r s rows
    cases hn : natEq s sz with
    | false => rw [hn] at hk; exact hk.elim
    | true =>
    rw [hn] at hk
    have := natEq_eq hn
    subst this
    have hd := repA_d (c_of hx)
    by_cases hne : rows = []
    · subst hne
      refine ⟨_, hk, .inl ⟨rfl, ?_⟩⟩
      cases hd with
      | sl0 => exact ⟨_, _, rfl⟩
      | sl _ _ b o n c _ cs e fz vs hr hh hm hc hsz hcell hrep =>
        simp at hm; subst hm; exact ⟨_, _, rfl⟩
    · obtain ⟨A, m, c, rfl⟩ : ∃ A m c, u = .slice A m c := by cases hd <;> exact ⟨_, _, _, rfl⟩
      obtain ⟨a, vals, rfl, hs⟩ := src_sl hz hd hne
      exact ⟨_, hk, .inr ⟨hne, a, m, c, vals, rfl, hs⟩⟩
  · rename_i r s rows
    cases hn : natEq s sz with
    | false => rw [hn] at hk; exact hk.elim
    | true =>
    rw [hn] at hk
    have := natEq_eq hn
    subst this
    have hd := c_of hx
    cases hd with
    | full A n _ _ _ hml hd =>
    by_cases hne : rows = []
    · subst hne
      simp at hml; subst hml
      exact ⟨_, hk, .inl ⟨rfl, _, _, rfl⟩⟩
    · obtain ⟨a, vals, rfl, hs⟩ := src_sl hz hd hne
      exact ⟨_, hk, .inr ⟨hne, a, n, n, vals, rfl, hs⟩⟩
  · have hd := repA_d (c_of hx)
    cases hd
    exact ⟨_, hk, .inl ⟨rfl, _, _, rfl⟩⟩
  · have hd := c_of hx
    cases hd
    exact ⟨_, hk, .inl ⟨rfl, _, _, rfl⟩⟩
  · split at hk
    · rename_i o n e s rows ho
      cases hn : natEq s sz with
      | false => rw [hn] at hk; exact hk.elim
      | true =>
      rw [hn] at hk
      have := natEq_eq hn
      subst this
      obtain ⟨hn, hk⟩ := hk
      subst hn
      have hd := c_of hx
      by_cases hne : rows = []
      · subst hne
        refine ⟨_, hk, .inl ⟨rfl, ?_⟩⟩
        cases hd with
        | own _ _ en he hr hn A c hval => exact ⟨A, c, rfl⟩
      · obtain ⟨A, m, c, rfl⟩ : ∃ A m c, u = .slice A m c := by cases hd; exact ⟨_, _, _, rfl⟩
        obtain ⟨a, vals, rfl, hs⟩ := src_own hI ho hd hne
        exact ⟨_, hk, .inr ⟨hne, a, m, c, vals, rfl, hs⟩⟩
    · exact hk.elim
  · exact hk.elim

/-- Nothing is appended. -/
theorem run_append_zero {t ty e : Nat} {i : TypeInfo} (ht : P.underlying t = some (.slice e)) (hi : P.info? e = some i) (w : World) (A : Option Addr) (n c : Nat) (hc : n ≤ c) (B : Option Addr) (c' : Nat) :
    (Builtin.append_ #[t, t] ty #[.slice A n c, .slice B 0 c']).run P w = .ok (.slice A n c) w := by
  cases A <;> cases B <;> simp [Builtin.append_, run_underlying ht, sizeOf, typeInfo, hi, Builtin.lenOf, Builtin.firstCells, loadCells, loadCellsFrom, hc, storeCells]

def bnd (n bytes : Nat) : Prop := n * bytes ≤ 140737488355328 ∧ n ≤ 4611686018427387904

def aAppend (T : Tab) (σ : List AObj) (t : Nat) (s x : Val) (K : Val → List AObj → Prop) : Prop :=
  match T.ti t with
  | some i => match i.k with
    | .sl e => match T.ti e with
      | some j => bif natEq j.sz 0 then False else srcRows σ j.sz x fun news => match s with
        | .c (.d .nils) => bnd news.length j.bytes ∧ K (.c (.own σ.length news.length)) (σ ++ [.row e j.sz news])
        | .c .emp => match news with
          | [] => K (.c .emp) σ
          | _ :: _ => bnd news.length j.bytes ∧ K (.c (.own σ.length news.length)) (σ ++ [.row e j.sz news])
        | .c (.full r sz rows) => bif natEq sz j.sz then (match news with
          | [] => K (.c (.full r sz rows)) σ
          | _ :: _ => bnd (rows.length + news.length) j.bytes ∧ K (.c (.own σ.length (rows.length + news.length))) (σ ++ [.row e j.sz (rows ++ news)])) else False
        | .c (.own o n) => match σ[o]? with
          | some (.row e' sz rows) => bif natEq e' e && natEq sz j.sz then ((n = rows.length ∧ bnd (rows.length + news.length) j.bytes) ∧ K (.c (.own o (rows.length + news.length))) (σ.set o (.row e j.sz (rows ++ news)))) else False
          | _ => False
        | _ => False
      | none => False
    | _ => False
  | none => False

theorem rows_app {w : World} {rg : Nat → Option Nat} {sz : Nat} {rows news : List (List DV)} {xs vals : List Value} (hx : xs.length = rows.length * sz)
    (h1 : ∀ (j i : Nat) row y, rows[j]? = some row → row[i]? = some y → ∃ v, xs[j * sz + i]? = some v ∧ RepD w rg v y) (hs1 : ∀ row, row ∈ rows → row.length = sz)
    (h2 : ∀ (j i : Nat) row y, news[j]? = some row → row[i]? = some y → ∃ v, vals[j * sz + i]? = some v ∧ RepD w rg v y) :
    ∀ (j i : Nat) row y, (rows ++ news)[j]? = some row → row[i]? = some y → ∃ v, (xs ++ vals)[j * sz + i]? = some v ∧ RepD w rg v y := by
  intro j i row y hj hi
  by_cases hlt : j < rows.length
  · rw [List.getElem?_append_left hlt] at hj
    obtain ⟨v, hv, hr⟩ := h1 j i row y hj hi
    exact ⟨v, by rw [List.getElem?_append_left (List.getElem?_eq_some_iff.1 hv).1]; exact hv, hr⟩
  · rw [List.getElem?_append_right (by omega)] at hj
    obtain ⟨v, hv, hr⟩ := h2 _ i row y hj hi
    refine ⟨v, ?_, hr⟩
    have e : j * sz + i = xs.length + ((j - rows.length) * sz + i) := by
      rw [hx, ← Nat.add_assoc, ← Nat.add_mul]
      congr 2
      omega
    rw [e, List.getElem?_append_right (by omega)]
    simpa using hv

/-- A new row out of cells that are known. -/
theorem new_row {w w' : World} {C : Cz} {σ : List AObj} (hI : Inv w C σ) {e sz n cap : Nat} (hz : 0 < sz) {xs : List Value} {z : Array Value} {rows : List (List DV)} (hzs : z.size = sz) (hxl : xs.length = rows.length * sz) (hn : n = rows.length) (hcap : n ≤ cap) (hm : cap ≤ maxLen)
    (hsz : ∀ row, row ∈ rows → row.length = sz) (hrep : ∀ (j i : Nat) row y, rows[j]? = some row → row[i]? = some y → ∃ v, xs[j * sz + i]? = some v ∧ RepD w C.rg v y)
    (hw : w' = w.drew.alloc (.cells (xs.toArray ++ Builtin.zeroCells z (cap - n)) e)) :
    ∃ C', Inv w' C' (σ ++ [.row e sz rows]) ∧ Ext w C σ w' C' (σ ++ [.row e sz rows]) ∧ RepA w' C' (.slice (some ⟨w.heap.size, 0, none⟩) n cap) (.own σ.length rows.length) := by
  subst hw
  subst hn
  have hszw : w.heap.size ≤ (w.drew.alloc (.cells (xs.toArray ++ Builtin.zeroCells z (cap - rows.length)) e)).heap.size := by simp
  have hold : ∀ b, b < w.heap.size → (w.drew.alloc (.cells (xs.toArray ++ Builtin.zeroCells z (cap - rows.length)) e)).heap[b]? = w.heap[b]? := fun b hb => alloc_old w.drew _ hb
  let en : Ent := ⟨true, some w.heap.size, rows.length, .slice (some ⟨w.heap.size, 0, none⟩) rows.length cap⟩
  have hle : CzLe w C (w.drew.alloc (.cells (xs.toArray ++ Builtin.zeroCells z (cap - rows.length)) e)) (C.add en) := CzLe.add _ (fun b r hb => hold b (hI.rgs b r hb))
  refine ⟨C.add en, hI.addNew hszw hold (fun b hb => by cases hb; simp) ⟨rfl, rfl, rfl, hz, hsz, xs, ⟨hxl, .inr ⟨w.heap.size, cap, _, (by simp [en]), Nat.zero_le _, alloc_new w.drew _, by omega, hm, ?_, ?_⟩⟩, fun j i row y hj hi => ?_⟩,
    Ext.addNew hI rfl rfl rfl hszw hold (fun b hb => by cases hb; exact Nat.le_refl _), ?_⟩
  · simp only [Array.size_append, List.size_toArray, size_zeroCells, hzs, hxl]
    rw [← Nat.add_mul]; congr 1; omega
  · simp only [Array.toList_append]
    rw [← hxl]
    exact List.take_left
  · obtain ⟨v, hv, hr⟩ := hrep j i row y hj hi
    exact ⟨v, hv, hr.mono hle.rg⟩
  · have := RepA.own (w := w.drew.alloc (.cells (xs.toArray ++ Builtin.zeroCells z (cap - rows.length)) e)) (C := C.add en) σ.length rows.length en (by simp [Cz.add, ← hI.len]) rfl (Nat.le_refl _) (some ⟨w.heap.size, 0, none⟩) cap (fun _ => by simp [en])
    exact this

theorem nil_row {w : World} {C : Cz} {σ : List AObj} (hI : Inv w C σ) {e sz : Nat} (hz : 0 < sz) :
    ∃ C', Inv w C' (σ ++ [.row e sz []]) ∧ Ext w C σ w C' (σ ++ [.row e sz []]) ∧ RepA w C' (.slice none 0 0) (.own σ.length 0) ∧ CzLe w C w C' := by
  let en : Ent := ⟨true, none, 0, .slice none 0 0⟩
  refine ⟨C.add en, hI.addNew (Nat.le_refl _) (fun _ _ => rfl) (fun b hb => by cases hb) ⟨rfl, rfl, rfl, hz, fun row h => by simp at h, [], ⟨by simp, .inl ⟨rfl, rfl⟩⟩, fun j i row x h => by simp at h⟩,
    Ext.addNew hI rfl rfl rfl (Nat.le_refl _) (fun _ _ => rfl) (fun b hb => by cases hb), .own σ.length 0 en (by simp [Cz.add, ← hI.len]) rfl (Nat.le_refl _) none 0 (fun _ => rfl), CzLe.add _ (fun _ _ _ => rfl)⟩

theorem own_inv {w : World} {C : Cz} {v : Value} {o n : Nat} (h : RepA w C v (.own o n)) : ∃ e A c, C.θ[o]? = some e ∧ e.row = true ∧ n ≤ e.len ∧ v = .slice A n c ∧ (n = e.len → .slice A n c = e.val) := by
  cases h with
  | own _ _ e he hr hn A c hv => exact ⟨e, A, c, he, hr, hn, rfl, hv⟩

theorem append_own {w : World} {C : Cz} {σ : List AObj} (hI : Inv w C σ) {t ty e o sz bytes : Nat} {ie : TypeInfo} {ze : Value} (h2 : P.underlying t = some (.slice e)) (k1 : P.info? e = some ie) (k8 : ie.zero = some ze)
    (k4 : ie.size = sz) (k6 : ie.bytes = bytes) (k10 : ze.cells.size = sz) {rows news : List (List DV)} (ho : σ[o]? = some (.row e sz rows)) {A : Option Addr} {c : Nat} {v : Value} (hd : RepA w C (.slice A rows.length c) (.own o rows.length))
    (hsrc : IsSrc w C v sz news) (b1 : (rows.length + news.length) * bytes ≤ 140737488355328) (b2 : rows.length + news.length ≤ 4611686018427387904) :
    ∃ u' w' C', (Builtin.append_ #[t, t] ty #[.slice A rows.length c, v]).run P w = .ok u' w' ∧ Inv w' C' (σ.set o (.row e sz (rows ++ news))) ∧ Ext w C σ w' C' (σ.set o (.row e sz (rows ++ news))) ∧
      RepA w' C' u' (.own o (rows.length + news.length)) := by
  have hml : ∀ n, n ≤ 4611686018427387904 → n ≤ maxLen := fun n hn => by simp only [maxLen]; omega
  obtain ⟨en, A2, c2, he, hr, hle, hAc, hval⟩ := own_inv hd
  cases hAc
  obtain ⟨g1, g2, g3, g4, g5, xs, g6, g7⟩ := hI.ok o _ en ho he
  have hval := hval g2.symm
  have fin : ∀ (u' : Value) (w' : World) (vals : List Value) (A' : Option Addr) (c' : Nat), u' = .slice A' (rows.length + news.length) c' →
      (Builtin.append_ #[t, t] ty #[.slice A rows.length c, v]).run P w = .ok u' w' → w'.ownsRow 0 e sz u' (rows.length + news.length) (xs ++ vals) → w'.os = w.os → w'.tape = w.tape → w'.output = w.output → w.heap.size ≤ w'.heap.size →
      (∀ b, b < w.heap.size → en.b ≠ some b → w'.heap[b]? = w.heap[b]?) → (∀ b, u'.ownBlock = some b → en.b = some b ∨ (w.heap.size ≤ b ∧ b < w'.heap.size)) →
      (∀ row, row ∈ news → row.length = sz) → (∀ (a i : Nat) row y, news[a]? = some row → row[i]? = some y → ∃ v, vals[a * sz + i]? = some v ∧ RepD w C.rg v y) → 0 < news.length →
      ∃ u' w' C', (Builtin.append_ #[t, t] ty #[.slice A rows.length c, v]).run P w = .ok u' w' ∧ Inv w' C' (σ.set o (.row e sz (rows ++ news))) ∧ Ext w C σ w' C' (σ.set o (.row e sz (rows ++ news))) ∧
        RepA w' C' u' (.own o (rows.length + news.length)) := by
    intro u' w' vals A' c' hu' hrun hown hos htp hout hszw hold hnew hnsz hnrep hnpos
    let e2 : Ent := ⟨true, u'.ownBlock, rows.length + news.length, u'⟩
    obtain ⟨v1, v2⟩ := hI.upd (o' := .row e sz (rows ++ news)) (e' := e2) ho he rfl hszw (.inr ⟨hr, rfl, by show en.len < _; rw [g2]; show rows.length < rows.length + news.length; omega⟩) hold hnew (fun hc => by
      refine ⟨rfl, by simp [e2], rfl, g4, fun row hrow => ?_, xs ++ vals, by simpa using hown, fun a i row y ha hi => ?_⟩
      · rcases List.mem_append.1 hrow with h | h
        · exact g5 row h
        · exact hnsz row h
      · obtain ⟨v, hv, hrv⟩ := rows_app (rg := C.rg) g6.1 g7 g5 hnrep a i row y ha hi
        exact ⟨v, hv, hrv.mono hc.rg⟩)
    refine ⟨u', w', _, hrun, v2, Ext.upd hI ho he rfl hos htp hout hszw v1 hold (fun b hb => (hnew b hb).imp id And.left), ?_⟩
    subst hu'
    exact .own o _ e2 (by simp [Cz.upd, List.getElem?_set, (List.getElem?_eq_some_iff.1 he).1]) rfl (Nat.le_refl _) A' c' (fun _ => rfl)
  rcases hsrc with ⟨rfl, B, c', rfl⟩ | ⟨hne, a, m, c', vals, rfl, hS⟩
  · have hcn : rows.length ≤ c := by
      rcases g6.2 with ⟨h1, h2⟩ | ⟨g, cap, cur, h1, _, h3, h4, h5, h6, h7⟩
      · omega
      · rw [h1] at hval; cases hval; exact h4
    have e0 : σ.set o (.row e sz (rows ++ [])) = σ := by
      rw [List.append_nil]
      exact List.ext_getElem? fun k => by
        rw [List.getElem?_set]
        split
        · subst_vars
          rw [ho]
          simp [(List.getElem?_eq_some_iff.1 ho).1]
        · rfl
    rw [e0]
    exact ⟨_, w, C, run_append_zero h2 k1 w A rows.length c hcn B c', hI, .refl w C σ, .own o _ en he hr hle A c (fun _ => hval)⟩
  · have hm := hS.mlen
    have hmp : 0 < m := by
      rcases Nat.eq_zero_or_pos m with h0 | h0
      · rw [h0] at hm; exact absurd (List.eq_nil_of_length_eq_zero hm.symm) hne
      · exact h0
    have hnp : 0 < news.length := by omega
    rcases g6.2 with ⟨q1, q2⟩ | ⟨g, cap, cur, q1, _, q3, q4, q5, q6, q7⟩
    · have hre : rows = [] := List.eq_nil_of_length_eq_zero q2
      subst hre
      rw [q1] at hval
      have hval2 := hval
      simp only [List.length_nil, Value.slice.injEq, true_and] at hval2
      obtain ⟨rfl, rfl⟩ := hval2
      have hxs : xs = [] := List.eq_nil_of_length_eq_zero (by have := g6.1; simpa using this)
      subst hxs
      have hrun := run_append_nil (P := P) w t ty e ie ze h2 k1 k8 a m c' vals (by rw [k4]; exact hS.len) hS.at_ hmp (by simp at b2; omega) (by rw [k6]; simp only [List.length_nil, Nat.zero_add] at b1; rw [hm]; omega)
      have hge := grownCap_ge w m 0 e
      have hcm := grownCap_le_maxLen w m 0 e (hml _ (by simp at b2; omega))
      refine fin _ _ vals (some ⟨w.heap.size, 0, none⟩) (grownCap w m 0 e) (by simp [hm]) hrun ⟨by simp [hS.len, hm], .inr ⟨w.heap.size, _, _, (by simp [hm]), Nat.zero_le _, alloc_new w.drew _, by simp; omega, hcm, ?_, ?_⟩⟩ rfl rfl rfl (by simp) (fun b hb _ => alloc_old w.drew _ hb) (fun b hb => ?_) hS.wid hS.rep hnp
      · simp only [Array.size_append, List.size_toArray, size_zeroCells, k10, hS.len]
        rw [← Nat.add_mul]; congr 1; omega
      · simp only [Array.toList_append, List.nil_append, List.length_nil, Nat.zero_add]
        rw [← hm, ← hS.len]
        exact List.take_left
      · simp [Value.ownBlock] at hb
        exact .inr ⟨by omega, by simp; omega⟩
    · rw [q1] at hval
      cases hval
      by_cases hroom : rows.length + m ≤ c
      · have hfit : rows.length * ie.size + vals.length ≤ cur.size := by rw [hS.len, q6, k4, ← Nat.add_mul]; exact Nat.mul_le_mul_right _ hroom
        have hrun := run_append_room (P := P) w t ty e ie h2 k1 g rows.length c cur q3 a m c' vals (by rw [k4]; exact hS.len) hS.at_ hS.one hroom hfit
        refine fin _ _ vals (some ⟨g, 0, none⟩) c (by rw [hm]) hrun ⟨by rw [List.length_append, g6.1, hS.len, hm, Nat.add_mul], .inr ⟨g, c, _, (by rw [hm]), Nat.zero_le _, setRow_heap w g cur _ e _ q3, by rw [← hm]; exact hroom, q5, ?_, ?_⟩⟩ rfl rfl rfl (by simp [World.setRow]) (fun b _ hb => setRow_other w g b _ (fun e1 => hb (by rw [g3, q1, e1]; rfl))) (fun b hb => ?_) hS.wid hS.rep hnp
        · rw [k4] at hfit ⊢
          simp only [List.size_toArray, List.length_append, List.length_take, List.length_drop, Array.length_toList]
          omega
        · have : xs.length + vals.length = (rows.length + news.length) * sz := by rw [g6.1, hS.len, hm, Nat.add_mul]
          rw [k4, q7, ← this, ← List.length_append]
          exact List.take_left
        · left; rw [g3, q1]; exact hb
      · have holds : ∀ (k : Nat) u, xs[k]? = some u → w.cell? ((⟨g, 0, none⟩ : Addr).add k) = some u := g6.cells (g := g) (by rw [q1]; rfl)
        have hrun := run_append_grow (P := P) w t ty e ie ze h2 k1 k8 ⟨g, 0, none⟩ rows.length c xs (by rw [k4]; exact g6.1) holds a m c' vals (by rw [k4]; exact hS.len) hS.at_ (by omega) (by omega) (growslice_fits (by omega) (by rw [k6, hm]; exact b1))
        have hge := grownCap_ge w (rows.length + m) c e
        have hcm := grownCap_le_maxLen w (rows.length + m) c e (hml _ (by omega))
        refine fin _ _ vals (some ⟨w.heap.size, 0, none⟩) (grownCap w (rows.length + m) c e) (by rw [hm]) hrun ⟨by rw [List.length_append, g6.1, hS.len, hm, Nat.add_mul], .inr ⟨w.heap.size, _, _, (by rw [hm]), Nat.zero_le _, alloc_new w.drew _, by rw [← hm]; exact hge, hcm, ?_, ?_⟩⟩ rfl rfl rfl (by simp) (fun b hb _ => alloc_old w.drew _ hb) (fun b hb => ?_) hS.wid hS.rep hnp
        · simp only [Array.size_append, List.size_toArray, size_zeroCells, k10, hS.len, g6.1]
          rw [← Nat.add_mul, ← Nat.add_mul]; congr 1; omega
        · have : xs.length + vals.length = (rows.length + news.length) * sz := by rw [g6.1, hS.len, hm, Nat.add_mul]
          simp only [Array.toList_append]
          rw [← this, ← List.length_append]
          exact List.take_left
        · simp [Value.ownBlock] at hb
          exact .inr ⟨by omega, by simp; omega⟩

include HT in
theorem ok_append {w : World} {C : Cz} {σ : List AObj} (hI : Inv w C σ) {t ty : Nat} {u v : Value} {s x : Val} (hs : RepV w C u s) (hx : RepV w C v x) {K : Val → List AObj → Prop} (hk : aAppend T σ t s x K) :
    OK1 P (Builtin.append_ #[t, t] ty #[u, v]) w C σ K := by
  unfold aAppend at hk
  split at hk
  · rename_i i hti
    obtain ⟨_, d, _, h1, h2, h3, _⟩ := ti_parts (HT.ti t i hti)
    split at hk
    · rename_i e hik
      rw [hik] at h3
      have := kind_sl h3
      subst this
      split at hk
      · rename_i j hj
        obtain ⟨ie, _, ze, k1, k2, k3, k4, k6, k7, k8, k9, k10, k11, k12⟩ := ti_parts (HT.ti e j hj)
        cases hg : natEq j.sz 0 with
        | true => rw [hg] at hk; exact hk.elim
        | false =>
        rw [hg] at hk
        simp only [cond_false] at hk
        have hpos : 0 < j.sz := by
          rcases Nat.eq_zero_or_pos j.sz with h0 | h0
          · rw [h0] at hg; cases hg
          · exact h0
        obtain ⟨news, hk, hsrc⟩ := srcRows_ok hI hx hpos hk
        have hmx : (4611686018427387904 : Nat) ≤ 9223372036854775807 := by decide
        have hml : ∀ n, n ≤ 4611686018427387904 → n ≤ maxLen := fun n hn => by simp only [maxLen]; omega
        -- from nothing: a new row
        have fresh : ∀ (hk : bnd news.length j.bytes ∧ K (.c (.own σ.length news.length)) (σ ++ [.row e j.sz news])) (hu : u = .slice none 0 0), OK1 P (Builtin.append_ #[t, t] ty #[u, v]) w C σ K := by
          rintro ⟨⟨b1, b2⟩, hk⟩ rfl
          rcases hsrc with ⟨rfl, B, c', rfl⟩ | ⟨hne, a, m, c, vals, rfl, hS⟩
          · obtain ⟨C', g1, g2, g3, g4⟩ := nil_row (e := e) hI hpos
            exact ⟨_, w, C', _, _, run_append_zero h2 k1 w none 0 0 (Nat.le_refl _) B c', hk, g1, g2, .c _ _ g3⟩
          · have hm := hS.mlen
            have hmp : 0 < m := by
              rcases Nat.eq_zero_or_pos m with h0 | h0
              · rw [h0] at hm; exact absurd (List.eq_nil_of_length_eq_zero hm.symm) hne
              · exact h0
            have hr := run_append_nil (P := P) w t ty e ie ze h2 k1 k8 a m c vals (by rw [k4]; exact hS.len) hS.at_ hmp (by omega) (by rw [k6, hm]; omega)
            have hcm := grownCap_le_maxLen w m 0 e (hml _ (by omega))
            obtain ⟨C', g1, g2, g3⟩ := new_row (e := e) hI hpos k10 (by rw [hS.len, hm]) hm (grownCap_ge w m 0 e) hcm hS.wid hS.rep rfl
            exact ⟨_, _, C', _, _, hr, hk, g1, g2, .c _ _ g3⟩
        split at hk
        · have hd := repA_d (c_of hs)
          cases hd
          exact fresh hk rfl
        · have hd := c_of hs
          cases hd with
          | emp A =>
          split at hk
          · rcases hsrc with ⟨_, B, c', rfl⟩ | ⟨hne, _⟩
            · exact OK1.same hI (run_append_zero h2 k1 w A 0 0 (Nat.le_refl _) B c') hk (.c _ _ (.emp A))
            · exact absurd rfl hne
          · rename_i n1 nr
            rcases hsrc with ⟨h0, _⟩ | ⟨hne, a, m, c, vals, rfl, hS⟩
            · cases h0
            · obtain ⟨⟨b1, b2⟩, hk⟩ := hk
              have hm := hS.mlen
              have hmp : 0 < m := by rw [hm]; simp
              cases A with
              | none =>
                have hr := run_append_nil (P := P) w t ty e ie ze h2 k1 k8 a m c vals (by rw [k4]; exact hS.len) hS.at_ hmp (by omega) (by rw [k6, hm]; omega)
                have hcm := grownCap_le_maxLen w m 0 e (hml _ (by omega))
                obtain ⟨C', g1, g2, g3⟩ := new_row (e := e) hI hpos k10 (by rw [hS.len, hm]) hm (grownCap_ge w m 0 e) hcm hS.wid hS.rep rfl
                exact ⟨_, _, C', _, _, hr, hk, g1, g2, .c _ _ g3⟩
              | some ad =>
                have hr := run_append_grow (P := P) w t ty e ie ze h2 k1 k8 ad 0 0 [] (by simp) (fun j v h => by simp at h) a m c vals (by rw [k4]; exact hS.len) hS.at_ (by omega) (by omega) (growslice_fits (by omega) (by rw [k6, Nat.zero_add, hm]; exact b1))
                simp only [Nat.zero_add, show ([] : List Value).toArray = #[] from rfl, Array.empty_append] at hr
                have hcm := grownCap_le_maxLen w m 0 e (hml _ (by omega))
                obtain ⟨C', g1, g2, g3⟩ := new_row (e := e) hI hpos k10 (by rw [hS.len, hm]) hm (grownCap_ge w m 0 e) hcm hS.wid hS.rep rfl
                exact ⟨_, _, C', _, _, hr, hk, g1, g2, .c _ _ g3⟩
        · rename_i r sz rows _
          cases hq : natEq sz j.sz with
          | false => rw [hq] at hk; exact hk.elim
          | true =>
          rw [hq] at hk
          have := natEq_eq hq
          subst this
          have hd := c_of hs
          split at hk
          · cases hd with
            | full A n _ _ _ hn hd =>
            rcases hsrc with ⟨_, B, c', rfl⟩ | ⟨hne, _⟩
            · exact OK1.same hI (run_append_zero h2 k1 w A n n (Nat.le_refl _) B c') hk (.c _ _ (.full A n _ _ _ hn hd))
            · exact absurd rfl hne
          · rename_i n1 nr
            cases hd with
            | full A n _ _ _ hn hd =>
            rcases hsrc with ⟨h0, _⟩ | ⟨hne, a, m, c, vals, rfl, hS⟩
            · cases h0
            · obtain ⟨⟨b1, b2⟩, hk⟩ := hk
              have hm := hS.mlen
              have hmp : 0 < m := by rw [hm]; simp
              by_cases hre : rows = []
              · subst hre
                simp at hn; subst hn
                simp only [List.length_nil, Nat.zero_add, List.nil_append] at b1 b2 hk
                cases A with
                | none =>
                  have hr := run_append_nil (P := P) w t ty e ie ze h2 k1 k8 a m c vals (by rw [k4]; exact hS.len) hS.at_ hmp (by omega) (by rw [k6, hm]; omega)
                  have hcm := grownCap_le_maxLen w m 0 e (hml _ (by omega))
                  obtain ⟨C', g1, g2, g3⟩ := new_row (e := e) hI hpos k10 (by rw [hS.len, hm]) hm (grownCap_ge w m 0 e) hcm hS.wid hS.rep rfl
                  exact ⟨_, _, C', _, _, hr, hk, g1, g2, .c _ _ g3⟩
                | some ad =>
                  have hr := run_append_grow (P := P) w t ty e ie ze h2 k1 k8 ad 0 0 [] (by simp) (fun j v h => by simp at h) a m c vals (by rw [k4]; exact hS.len) hS.at_ (by omega) (by omega) (growslice_fits (by omega) (by rw [k6, Nat.zero_add, hm]; exact b1))
                  simp only [Nat.zero_add, show ([] : List Value).toArray = #[] from rfl, Array.empty_append] at hr
                  have hcm := grownCap_le_maxLen w m 0 e (hml _ (by omega))
                  obtain ⟨C', g1, g2, g3⟩ := new_row (e := e) hI hpos k10 (by rw [hS.len, hm]) hm (grownCap_ge w m 0 e) hcm hS.wid hS.rep rfl
                  exact ⟨_, _, C', _, _, hr, hk, g1, g2, .c _ _ g3⟩
              · obtain ⟨b, olds, rfl, ho⟩ := src_sl hpos hd hre
                have hr := run_append_grow (P := P) w t ty e ie ze h2 k1 k8 b n n olds (by rw [k4]; exact ho.len) ho.at_ a m c vals (by rw [k4]; exact hS.len) hS.at_ (by omega) (by omega) (growslice_fits (by omega) (by rw [k6, hm, ho.mlen]; exact b1))
                have hcm := grownCap_le_maxLen w (n + m) n e (hml _ (by omega))
                have hxl : (olds ++ vals).length = (rows ++ n1 :: nr).length * j.sz := by rw [List.length_append, List.length_append, ho.len, hS.len, ← ho.mlen, ← hm, Nat.add_mul]
                obtain ⟨C', g1, g2, g3⟩ := new_row (e := e) (xs := olds ++ vals) (rows := rows ++ n1 :: nr) hI hpos k10 hxl (by rw [List.length_append, ← ho.mlen, ← hm]) (grownCap_ge w (n + m) n e) hcm
                  (fun row hrow => by rcases List.mem_append.1 hrow with h | h; exact ho.wid row h; exact hS.wid row h) (rows_app (by rw [ho.len, ho.mlen]) ho.rep ho.wid hS.rep) rfl
                rw [List.length_append] at g3
                refine ⟨_, _, C', _, _, hr, hk, ?_, ?_, .c _ _ ?_⟩ <;> simpa using ‹_›
        · rename_i o n _
          split at hk
          · rename_i e' sz rows ho
            cases hq : natEq e' e && natEq sz j.sz with
            | false => rw [hq] at hk; exact hk.elim
            | true =>
            rw [hq] at hk
            simp only [Bool.and_eq_true] at hq
            have q1 := natEq_eq hq.1
            have q2 := natEq_eq hq.2
            subst q1; subst q2
            simp only [cond_true] at hk
            obtain ⟨⟨hn, b1, b2⟩, hk2⟩ := hk
            subst hn
            have hd := c_of hs
            obtain ⟨A, c, rfl⟩ : ∃ A c, u = .slice A rows.length c := by
              obtain ⟨_, A, c, _, _, _, h, _⟩ := own_inv hd
              exact ⟨A, c, h⟩
            obtain ⟨u', w', C', g1, g2, g3, g4⟩ := append_own hI h2 k1 k8 k4 k6 k10 ho hd hsrc b1 b2
            exact ⟨u', w', C', _, _, g1, hk2, g2, g3, .c _ _ g4⟩
          · exact hk.elim
        · exact hk.elim
      · exact hk.elim
    · exact hk.elim
  · exact hk.elim

end
end Go.Proofs.YtmaokphbfjpodaaGreatDoor.E

/- The engine, part 12: contracts of functions on data; a call sees the objects that it is handed, and no others. No conditions. -/
set_option linter.unusedVariables false
set_option linter.unusedSimpArgs false
namespace Go.Proofs.YtmaokphbfjpodaaGreatDoor.E
open Go

/-! ### Which objects are mentioned; other numbers for them -/
mutual
def AV.ids : AV → List Nat
  | .d _ => []
  | .ptr o _ => [o]
  | .own o _ => [o]
  | .rowp o _ _ _ _ => [o]
  | .emp => []
  | .full _ _ _ => []
  | .mp o => [o]
  | .fn _ a b => AV.idsL a ++ AV.idsL b
  | .ifc _ x => x.ids
  | .ifa _ l => AV.idsL l
def AV.idsL : List AV → List Nat
  | [] => []
  | a :: l => a.ids ++ AV.idsL l
end

mutual
def AV.ren (f : Nat → Nat) : AV → AV
  | .d x => .d x
  | .ptr o k => .ptr (f o) k
  | .own o n => .own (f o) n
  | .rowp o n j sz off => .rowp (f o) n j sz off
  | .emp => .emp
  | .full r sz rows => .full r sz rows
  | .mp o => .mp (f o)
  | .fn g a b => .fn g (AV.renL f a) (AV.renL f b)
  | .ifc t x => .ifc t (x.ren f)
  | .ifa t l => .ifa t (AV.renL f l)
def AV.renL (f : Nat → Nat) : List AV → List AV
  | [] => []
  | a :: l => a.ren f :: AV.renL f l
end

theorem renL_map (f : Nat → Nat) : ∀ l, AV.renL f l = l.map (AV.ren f)
  | [] => by simp [AV.renL]
  | a :: l => by simp [AV.renL, renL_map f l]
theorem idsL_mem : ∀ {l : List AV} {a : AV}, a ∈ l → ∀ i ∈ a.ids, i ∈ AV.idsL l
  | b :: l, a, h, i, hi => by
    simp only [AV.idsL, List.mem_append]
    rcases List.mem_cons.1 h with rfl | h
    · exact .inl hi
    · exact .inr (idsL_mem h i hi)

mutual
def Val.ids : Val → List Nat
  | .c a => a.ids
  | .agg l => AV.idsL l
  | .tup vs => Val.idsL vs
  | .junk => []
def Val.idsL : List Val → List Nat
  | [] => []
  | x :: l => x.ids ++ Val.idsL l
end
mutual
def Val.ren (f : Nat → Nat) : Val → Val
  | .c a => .c (a.ren f)
  | .agg l => .agg (AV.renL f l)
  | .tup vs => .tup (Val.renL f vs)
  | .junk => .junk
def Val.renL (f : Nat → Nat) : List Val → List Val
  | [] => []
  | x :: l => x.ren f :: Val.renL f l
end
theorem vrenL_map (f : Nat → Nat) : ∀ l, Val.renL f l = l.map (Val.ren f)
  | [] => by simp [Val.renL]
  | a :: l => by simp [Val.renL, vrenL_map f l]
theorem vidsL_mem : ∀ {l : List Val} {a : Val}, a ∈ l → ∀ i ∈ a.ids, i ∈ Val.idsL l
  | b :: l, a, h, i, hi => by
    simp only [Val.idsL, List.mem_append]
    rcases List.mem_cons.1 h with rfl | h
    · exact .inl hi
    · exact .inr (vidsL_mem h i hi)

def AObj.ids : AObj → List Nat
  | .var cells => AV.idsL cells
  | .it m _ _ _ => m.ids
  | _ => []
def AObj.ren (f : Nat → Nat) : AObj → AObj
  | .var cells => .var (AV.renL f cells)
  | .it m a b c => .it (m.ren f) a b c
  | o => o

theorem AObj.live_ren (f : Nat → Nat) (o : AObj) : (o.ren f).live = o.live := by cases o <;> rfl

/-- The same references under other numbers. -/
theorem RepA.ren {w : World} {C C' : Cz} {f : Nat → Nat} {v : Value} {a : AV} (h : RepA w C v a) (hrg : C'.rg = C.rg) : (∀ i ∈ a.ids, ∀ e, C.θ[i]? = some e → C'.θ[f i]? = some e) → RepA w C' v (a.ren f) := by
  induction h with
  | d v x h => intro _; rw [AV.ren]; exact .d v x (by rw [hrg]; exact h)
  | ptr o off b e he hr hb => intro H; rw [AV.ren]; exact .ptr _ off b e (H o (by simp [AV.ids]) e he) hr hb
  | own o n e he hr hn A c hv => intro H; rw [AV.ren]; exact .own _ n e (H o (by simp [AV.ids]) e he) hr hn A c hv
  | rowp o n j sz off e he hr hn b hv => intro H; rw [AV.ren]; exact .rowp _ n j sz off e (H o (by simp [AV.ids]) e he) hr hn b hv
  | emp A => intro _; rw [AV.ren]; exact .emp A
  | full A n r sz rows hn h => intro _; rw [AV.ren]; exact .full A n r sz rows hn (by rw [hrg]; exact h)
  | mp o b e he hr hb => intro H; rw [AV.ren]; exact .mp _ b e (H o (by simp [AV.ids]) e he) hr hb
  | fn g fs cs first cap vf vc h1 h2 g1 g2 r1 r2 i1 i2 =>
    intro H
    rw [AV.ren, renL_map, renL_map]
    refine .fn g fs cs _ _ vf vc (by simpa using h1) (by simpa using h2) (fun i hi => g1 i (by simpa using hi)) (fun i hi => g2 i (by simpa using hi)) (fun i x hx => ?_) (fun i x hx => ?_)
    · rw [List.getElem?_map] at hx
      cases hy : first[i]? with
      | none => rw [hy] at hx; cases hx
      | some y =>
        rw [hy] at hx; cases hx
        exact i1 i y hy (fun j hj e he => H j (by simp only [AV.ids, List.mem_append]; exact .inl (idsL_mem (List.mem_of_getElem? hy) j hj)) e he)
    · rw [List.getElem?_map] at hx
      cases hy : cap[i]? with
      | none => rw [hy] at hx; cases hx
      | some y =>
        rw [hy] at hx; cases hx
        exact i2 i y hy (fun j hj e he => H j (by simp only [AV.ids, List.mem_append]; exact .inr (idsL_mem (List.mem_of_getElem? hy) j hj)) e he)
  | ifc t v x h ih => intro H; rw [AV.ren]; exact .ifc t v _ (ih (fun i hi e he => H i (by simpa [AV.ids] using hi) e he))
  | ifa t arr cells vs hs hcell hrep ih =>
    intro H
    rw [AV.ren, renL_map]
    refine .ifa t arr _ vs (by simpa using hs) (fun i hi => hcell i (by simpa using hi)) (fun i x hx => ?_)
    rw [List.getElem?_map] at hx
    cases hy : cells[i]? with
    | none => rw [hy] at hx; cases hx
    | some y =>
      rw [hy] at hx; cases hx
      exact ih i y hy (fun j hj e he => H j (by simp only [AV.ids]; exact idsL_mem (List.mem_of_getElem? hy) j hj) e he)

theorem RepL.ren {w : World} {C C' : Cz} {f : Nat → Nat} {vs : List Value} {as : List AV} (h : RepL w C vs as) (hrg : C'.rg = C.rg) (H : ∀ i ∈ AV.idsL as, ∀ e, C.θ[i]? = some e → C'.θ[f i]? = some e) : RepL w C' vs (AV.renL f as) := by
  rw [renL_map]
  refine ⟨by simpa using h.1, fun i v a h1 h2 => ?_⟩
  rw [List.getElem?_map] at h2
  cases hy : as[i]? with
  | none => rw [hy] at h2; cases h2
  | some y =>
    rw [hy] at h2; cases h2
    exact (h.2 i v y h1 hy).ren hrg (fun j hj e he => H j (idsL_mem (List.mem_of_getElem? hy) j hj) e he)

theorem RepV.ren {w : World} {C C' : Cz} {f : Nat → Nat} {v : Value} {x : Val} (h : RepV w C v x) (hrg : C'.rg = C.rg) : (∀ i ∈ x.ids, ∀ e, C.θ[i]? = some e → C'.θ[f i]? = some e) → RepV w C' v (x.ren f) := by
  induction h with
  | c v a h => intro H; rw [Val.ren]; exact .c v _ (h.ren hrg (by simpa [Val.ids] using H))
  | agg arr cells h => intro H; rw [Val.ren]; exact .agg arr _ (h.ren hrg (by simpa [Val.ids] using H))
  | tup arr vs hs h ih =>
    intro H
    rw [Val.ren, vrenL_map]
    refine .tup arr _ (by simpa using hs) (fun i v x h1 h2 => ?_)
    rw [List.getElem?_map] at h2
    cases hy : vs[i]? with
    | none => rw [hy] at h2; cases h2
    | some y =>
      rw [hy] at h2; cases h2
      exact ih i v y h1 hy (fun j hj e he => H j (by simp only [Val.ids]; exact vidsL_mem (List.mem_of_getElem? hy) j hj) e he)
  | junk v => intro _; rw [Val.ren]; exact .junk v

theorem ObjOk.ren {w : World} {C C' : Cz} {f : Nat → Nat} {e : Ent} {o : AObj} (h : ObjOk w C e o) (hrg : C'.rg = C.rg) (H : ∀ i ∈ o.ids, ∀ e, C.θ[i]? = some e → C'.θ[f i]? = some e) : ObjOk w C' e (o.ren f) := by
  cases o with
  | var cells =>
    obtain ⟨h1, b, cs, ty, h2, h3, h4⟩ := h
    exact ⟨h1, b, cs, ty, h2, h3, h4.ren hrg H⟩
  | row t sz rows =>
    obtain ⟨h1, h2, h3, h4, h5, xs, h6, h7⟩ := h
    exact ⟨h1, h2, h3, h4, h5, xs, h6, by rw [hrg]; exact h7⟩
  | frz r cells =>
    obtain ⟨h1, b, cs, ty, fz, h2, h3, h4, h5⟩ := h
    exact ⟨h1, b, cs, ty, fz, h2, by rw [hrg]; exact h3, h4, by rw [hrg]; exact h5⟩
  | mp kk clock es =>
    obtain ⟨h1, b, arr, h2, h3, h4, h5⟩ := h
    exact ⟨h1, b, arr, h2, h3, h4, by rw [hrg]; exact h5⟩
  | it m since seen c0 =>
    obtain ⟨h1, b, h2, ⟨u, bm, h3, h4, h5⟩ | ⟨s, h3, h5⟩⟩ := h
    · exact ⟨h1, b, h2, .inl ⟨u, bm, h3.ren hrg (fun i hi => H i hi), h4, h5⟩⟩
    · subst h3; exact ⟨h1, b, h2, .inr ⟨s, rfl, h5⟩⟩
  | gone => trivial

/-! ### Contracts -/
inductive Out where
  | ret (v : Val)
  | pan (a : AV)

def OutOk (w : World) (C : Cz) (e : Ending) : Out → Prop
  | .ret x => ∃ v, e = .returned v ∧ RepV w C v x
  | .pan a => ∃ v, e = .panicked [{ v := v, recovered := false }] ∧ RepA w C v a

def RepVs (w : World) (C : Cz) (vs : List Value) (xs : List Val) : Prop := vs.length = xs.length ∧ ∀ (i : Nat) v x, vs[i]? = some v → xs[i]? = some x → RepV w C v x

structure ACall (P : Program) (f : FuncId) (args : List Val) (σ : List AObj) (R : Out → List AObj → Prop) : Prop where
  out : ∀ (w : World) (C : Cz) (vs : Array Value), Inv w C σ → RepVs w C vs.toList args →
    Calls P f vs w fun e w' => ∃ o σ' C', R o σ' ∧ Inv w' C' σ' ∧ Ext w C σ w' C' σ' ∧ OutOk w' C' e o

theorem ACall.mono {P : Program} {f : FuncId} {args : List Val} {σ : List AObj} {R R' : Out → List AObj → Prop} (h : ACall P f args σ R) (hr : ∀ o σ', R o σ' → R' o σ') : ACall P f args σ R' :=
  ⟨fun w C vs h1 h2 => (h.out w C vs h1 h2).mono fun e w' ⟨o, σ', C', q, r⟩ => ⟨o, σ', C', hr _ _ q, r⟩⟩

/-! ### The objects that a call sees -/
def pos : List Nat → Nat → Option Nat
  | [], _ => none
  | j :: l, i => bif Nat.beq j i then some 0 else (match pos l i with | some k => some (k + 1) | none => none)

theorem pos_some : ∀ {l : List Nat} {i k : Nat}, pos l i = some k → l[k]? = some i
  | [], i, k, h => by simp [pos] at h
  | j :: l, i, k, h => by
    simp only [pos] at h
    cases hb : Nat.beq j i with
    | true => rw [hb] at h; simp at h; subst h; simp [Nat.eq_of_beq_eq_true hb]
    | false =>
      rw [hb] at h
      simp only [cond_false] at h
      split at h
      · rename_i k' hk; cases h; simpa using pos_some hk
      · cases h
theorem pos_none : ∀ {l : List Nat} {i : Nat}, pos l i = none → i ∉ l
  | [], i, h => by simp
  | j :: l, i, h => by
    simp only [pos] at h
    cases hb : Nat.beq j i with
    | true => rw [hb] at h; simp at h
    | false =>
      rw [hb] at h
      simp only [cond_false] at h
      split at h
      · cases h
      · rename_i hk
        have := pos_none hk
        have hne : ¬ i = j := fun e => by subst e; simp at hb
        simp [hne, this]
theorem pos_mem {l : List Nat} {i : Nat} (h : i ∈ l) : ∃ k, pos l i = some k := by
  cases hp : pos l i with
  | none => exact absurd h (pos_none hp)
  | some k => exact ⟨k, rfl⟩

def nodupB : List Nat → Bool
  | [] => true
  | i :: l => (match pos l i with | none => true | some _ => false) && nodupB l
theorem nodupB_inj : ∀ {l : List Nat}, nodupB l = true → ∀ {i j k : Nat}, l[i]? = some k → l[j]? = some k → i = j
  | [], _, i, j, k, h1, _ => by simp at h1
  | x :: l, h, i, j, k, h1, h2 => by
    simp only [nodupB, Bool.and_eq_true] at h
    have hx : x ∉ l := by
      obtain ⟨h, -⟩ := h
      split at h
      · rename_i hp; exact pos_none hp
      · cases h
    cases i with
    | zero =>
      cases j with
      | zero => rfl
      | succ j => simp at h1 h2; subst h1; exact absurd (List.mem_of_getElem? h2) hx
    | succ i =>
      cases j with
      | zero => simp at h1 h2; subst h2; exact absurd (List.mem_of_getElem? h1) hx
      | succ j => simp at h1 h2; rw [nodupB_inj h.2 h1 h2]
theorem nodup_pos {l : List Nat} (h : nodupB l = true) {k i : Nat} (hk : l[k]? = some i) : pos l i = some k := by
  obtain ⟨k', hk'⟩ := pos_mem (List.mem_of_getElem? hk)
  rw [hk', nodupB_inj h (pos_some hk') hk]

def subB (L : List Nat) : List Nat → Bool
  | [] => true
  | i :: l => (match pos L i with | some _ => true | none => false) && subB L l
theorem subB_mem {L : List Nat} : ∀ {l : List Nat}, subB L l = true → ∀ i ∈ l, i ∈ L
  | j :: l, h, i, hi => by
    simp only [subB, Bool.and_eq_true] at h
    rcases List.mem_cons.1 hi with rfl | hi
    · obtain ⟨h, -⟩ := h
      split at h
      · rename_i k hk; exact List.mem_of_getElem? (pos_some hk)
      · cases h
    · exact subB_mem h.2 i hi

def idx (L : List Nat) (i : Nat) : Nat := match pos L i with | some k => k | none => 0
def obj (σ : List AObj) (i : Nat) : AObj := match σ[i]? with | some o => o | none => .gone
def sub (σ : List AObj) (L M : List Nat) : List AObj := match M with
  | [] => []
  | i :: M => (obj σ i).ren (idx L) :: sub σ L M
def un (L : List Nat) (n j : Nat) : Nat := match L[j]? with | some i => i | none => n + (j - L.length)
def back (L : List Nat) (n : Nat) (σc : List AObj) : Nat → List AObj → List AObj
  | _, [] => (σc.drop L.length).map (AObj.ren (un L n))
  | i, o :: σ => (match pos L i with | some k => (obj σc k).ren (un L n) | none => o) :: back L n σc (i + 1) σ

def closedB (σ : List AObj) (L : List Nat) : List Nat → Bool
  | [] => true
  | i :: M => (match σ[i]? with | some o => subB L o.ids | none => false) && closedB σ L M
theorem closedB_mem {σ : List AObj} {L : List Nat} : ∀ {M : List Nat}, closedB σ L M = true → ∀ i ∈ M, ∃ o, σ[i]? = some o ∧ ∀ j ∈ o.ids, j ∈ L
  | k :: M, h, i, hi => by
    simp only [closedB, Bool.and_eq_true] at h
    rcases List.mem_cons.1 hi with rfl | hi
    · obtain ⟨h, -⟩ := h
      split at h
      · rename_i o ho; exact ⟨o, ho, subB_mem h⟩
      · cases h
    · exact closedB_mem h.2 i hi

theorem sub_get (σ : List AObj) (L : List Nat) : ∀ (M : List Nat) (k : Nat), (sub σ L M)[k]? = (M[k]?).map fun i => (obj σ i).ren (idx L)
  | [], k => by simp [sub]
  | i :: M, k => by cases k with
    | zero => simp [sub]
    | succ k => simp [sub, sub_get σ L M k]
theorem sub_len (σ : List AObj) (L : List Nat) : ∀ (M : List Nat), (sub σ L M).length = M.length
  | [] => rfl
  | i :: M => by simp [sub, sub_len σ L M]

theorem back_get (L : List Nat) (n : Nat) (σc : List AObj) : ∀ (σ : List AObj) (i k : Nat), (back L n σc i σ)[k]? =
    if k < σ.length then (match pos L (i + k) with | some q => some ((obj σc q).ren (un L n)) | none => σ[k]?) else ((σc.drop L.length)[k - σ.length]?).map (AObj.ren (un L n))
  | [], i, k => by simp [back]
  | o :: σ, i, k => by
    cases k with
    | zero => simp [back]; split <;> simp
    | succ k =>
      simp only [back, List.getElem?_cons_succ, back_get L n σc σ (i + 1) k, List.length_cons]
      rw [show i + 1 + k = i + (k + 1) by omega]
      by_cases h : k < σ.length
      · rw [if_pos h, if_pos (by omega)]
      · rw [if_neg h, if_neg (by omega), show k + 1 - (σ.length + 1) = k - σ.length by omega]
theorem back_len (L : List Nat) (n : Nat) (σc : List AObj) : ∀ (σ : List AObj) (i : Nat), (back L n σc i σ).length = σ.length + (σc.length - L.length)
  | [], i => by simp [back]
  | o :: σ, i => by simp [back, back_len L n σc σ (i + 1)]; omega

end Go.Proofs.YtmaokphbfjpodaaGreatDoor.E
