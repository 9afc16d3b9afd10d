/- The engine, part 1: data, references, states; how they stand for values of the machine. No conditions. -/
import Derived.Calls
import Derived.Control
import Derived.Defers
import Derived.Recover
import Derived.Below
import Derived.Tactics
import Derived.Laws.AppendOwn
import Derived.Laws.MakeOwn
import Derived.Laws.IdiomCopy
import Derived.Deep.MidRow
import Derived.KernelRfl
set_option linter.unusedVariables false
set_option linter.unusedSimpArgs false
namespace Go.Proofs.Ytdhkopangbgehaa.E
open Go

/-! ### Data -/
/-- Pure data. 'sl r sz rows': a slice that is read (region r, sz cells an element); 'rp r cells': an address of a place that is read. -/
inductive DV where
  | int (k : IntKind) (n : Int)
  | bool (b : Bool)
  | str (s : ByteArray)
  | sl (r sz : Nat) (rows : List (List DV))
  | nils
  | rp (r : Nat) (cells : List DV)
  | nilp
  | nilf
  | nili
  | ifc (t : TypeId) (x : DV)
  | ifa (t : TypeId) (cells : List DV)

/-- A cell: data, or a reference to an object of our own. -/
inductive AV where
  | d (x : DV)
  | ptr (o off : Nat)
  | own (o n : Nat)
  | rowp (o n k : Nat)
  | emp
  | full (r sz : Nat) (rows : List (List DV))
  | mp (o : Nat)
  | fn (f : FuncId) (first cap : List AV)
  | ifc (t : TypeId) (x : AV)
  | ifa (t : TypeId) (cells : List AV)

/-- What a slot holds. -/
inductive Val where
  | c (a : AV)
  | agg (cells : List AV)
  | tup (vs : List Val)
  | junk

/-- An object of our own. -/
inductive AObj where
  | var (cells : List AV)
  | row (e : TypeId) (sz : Nat) (rows : List (List DV))
  | frz (r : Nat) (cells : List DV)
  | mp (k e : TypeId) (es : List (DV × List AV))
  | gone

/-- Where an object lies. A row: its slice value, its length. -/
structure Ent where
  row : Bool
  b : Option Nat
  len : Nat
  val : Value

structure Cz where
  θ : List Ent
  rg : Nat → Option Nat

/-! ### How data stand for values -/
inductive RepD (w : World) (rg : Nat → Option Nat) : Value → DV → Prop
  | int (k : IntKind) (n : Int) : RepD w rg (.int k n) (.int k n)
  | bool (b : Bool) : RepD w rg (.bool b) (.bool b)
  | str (s : ByteArray) : RepD w rg (.string s) (.str s)
  | sl0 (A : Option Addr) (r sz c : Nat) : RepD w rg (.slice A 0 c) (.sl r sz [])
  | sl (r sz b o n c : Nat) (rows : List (List DV)) (cs : Array Value) (e : TypeId) (fz : Nat × Nat) (vs : Nat → Nat → Value)
      (hr : rg b = some r) (hh : w.heap[b]? = some (.cells cs e fz)) (hn : n = rows.length) (hc : n ≤ c)
      (hsz : ∀ row, row ∈ rows → row.length = sz)
      (hcell : ∀ (j i : Nat), j < n → i < sz → cs[o + j * sz + i]? = some (vs j i))
      (hrep : ∀ (j i : Nat) row x, rows[j]? = some row → row[i]? = some x → RepD w rg (vs j i) x) :
      RepD w rg (.slice (some ⟨b, o, none⟩) n c) (.sl r sz rows)
  | nils : RepD w rg (.slice none 0 0) .nils
  | rp (r b o : Nat) (cells : List DV) (cs : Array Value) (e : TypeId) (fz : Nat × Nat) (vs : Nat → Value)
      (hr : rg b = some r) (hh : w.heap[b]? = some (.cells cs e fz))
      (hcell : ∀ (i : Nat), i < cells.length → cs[o + i]? = some (vs i))
      (hrep : ∀ (i : Nat) x, cells[i]? = some x → RepD w rg (vs i) x) :
      RepD w rg (.pointer (some ⟨b, o, none⟩)) (.rp r cells)
  | nilp : RepD w rg (.pointer none) .nilp
  | nilf : RepD w rg .nilFunc .nilf
  | nili : RepD w rg .nilIface .nili
  | ifc (t : TypeId) (v : Value) (x : DV) (h : RepD w rg v x) : RepD w rg (.iface t v) (.ifc t x)
  | ifa (t : TypeId) (arr : Array Value) (cells : List DV) (vs : Nat → Value) (hs : arr.size = cells.length)
      (hcell : ∀ (i : Nat), i < cells.length → arr[i]? = some (vs i))
      (hrep : ∀ (i : Nat) x, cells[i]? = some x → RepD w rg (vs i) x) : RepD w rg (.iface t (.agg arr)) (.ifa t cells)

theorem RepD.mono {w w' : World} {rg rg' : Nat → Option Nat} (H : ∀ b r, rg b = some r → rg' b = some r ∧ w'.heap[b]? = w.heap[b]?) {v : Value} {x : DV}
    (h : RepD w rg v x) : RepD w' rg' v x := by
  induction h with
  | int k n => exact .int k n
  | bool b => exact .bool b
  | str s => exact .str s
  | sl0 A r sz c => exact .sl0 A r sz c
  | sl r sz b o n c rows cs e fz vs hr hh hn hc hsz hcell hrep ih => exact .sl r sz b o n c rows cs e fz vs (H b r hr).1 ((H b r hr).2.trans hh) hn hc hsz hcell ih
  | nils => exact .nils
  | rp r b o cells cs e fz vs hr hh hcell hrep ih => exact .rp r b o cells cs e fz vs (H b r hr).1 ((H b r hr).2.trans hh) hcell ih
  | nilp => exact .nilp
  | nilf => exact .nilf
  | nili => exact .nili
  | ifc t v x h ih => exact .ifc t v x ih
  | ifa t arr cells vs hs hcell hrep ih => exact .ifa t arr cells vs hs hcell ih

theorem RepD.oneCell {w : World} {rg : Nat → Option Nat} {v : Value} {x : DV} (h : RepD w rg v x) : v.oneCell' = true := by cases h <;> rfl

inductive RepA (w : World) (C : Cz) : Value → AV → Prop
  | d (v : Value) (x : DV) (h : RepD w C.rg v x) : RepA w C v (.d x)
  | ptr (o off b : Nat) (e : Ent) (he : C.θ[o]? = some e) (hr : e.row = false) (hb : e.b = some b) : RepA w C (.pointer (some ⟨b, off, none⟩)) (.ptr o off)
  | own (o n : Nat) (e : Ent) (he : C.θ[o]? = some e) (hr : e.row = true) (hn : n ≤ e.len) (A : Option Addr) (c : Nat) (hv : n = e.len → .slice A n c = e.val) :
      RepA w C (.slice A n c) (.own o n)
  | rowp (o n k : Nat) (e : Ent) (he : C.θ[o]? = some e) (hr : e.row = true) (hn : n ≤ e.len) (b : Nat) (hv : n = e.len → e.b = some b) :
      RepA w C (.pointer (some ⟨b, k, none⟩)) (.rowp o n k)
  | emp (A : Option Addr) : RepA w C (.slice A 0 0) .emp
  | full (A : Option Addr) (n r sz : Nat) (rows : List (List DV)) (hn : rows.length = n) (h : RepD w C.rg (.slice A n n) (.sl r sz rows)) : RepA w C (.slice A n n) (.full r sz rows)
  | mp (o b : Nat) (e : Ent) (he : C.θ[o]? = some e) (hr : e.row = false) (hb : e.b = some b) : RepA w C (.map (some b)) (.mp o)
  | fn (f : FuncId) (fs cs : Array Value) (first cap : List AV) (vf vc : Nat → Value) (h1 : fs.size = first.length) (h2 : cs.size = cap.length)
      (g1 : ∀ (i : Nat), i < first.length → fs[i]? = some (vf i)) (g2 : ∀ (i : Nat), i < cap.length → cs[i]? = some (vc i))
      (r1 : ∀ (i : Nat) x, first[i]? = some x → RepA w C (vf i) x) (r2 : ∀ (i : Nat) x, cap[i]? = some x → RepA w C (vc i) x) : RepA w C (.func (.func f) fs cs) (.fn f first cap)
  | ifc (t : TypeId) (v : Value) (x : AV) (h : RepA w C v x) : RepA w C (.iface t v) (.ifc t x)
  | ifa (t : TypeId) (arr : Array Value) (cells : List AV) (vs : Nat → Value) (hs : arr.size = cells.length)
      (hcell : ∀ (i : Nat), i < cells.length → arr[i]? = some (vs i))
      (hrep : ∀ (i : Nat) x, cells[i]? = some x → RepA w C (vs i) x) : RepA w C (.iface t (.agg arr)) (.ifa t cells)

def EntLe (e e' : Ent) : Prop := e' = e ∨ (e.row = true ∧ e'.row = true ∧ e.len < e'.len)
theorem EntLe.refl (e : Ent) : EntLe e e := .inl rfl
theorem EntLe.trans {a b c : Ent} (h : EntLe a b) (k : EntLe b c) : EntLe a c := by
  rcases h with rfl | ⟨h1, h2, h3⟩
  · exact k
  · rcases k with rfl | ⟨k1, k2, k3⟩
    · exact .inr ⟨h1, h2, h3⟩
    · exact .inr ⟨h1, k2, by omega⟩

/-- C' tells at least what C told. -/
structure CzLe (w : World) (C : Cz) (w' : World) (C' : Cz) : Prop where
  rg : ∀ b r, C.rg b = some r → C'.rg b = some r ∧ w'.heap[b]? = w.heap[b]?
  θ : ∀ (i : Nat) e, C.θ[i]? = some e → ∃ e', C'.θ[i]? = some e' ∧ EntLe e e'

theorem CzLe.refl (w : World) (C : Cz) : CzLe w C w C := ⟨fun _ _ h => ⟨h, rfl⟩, fun _ e h => ⟨e, h, .refl e⟩⟩
theorem CzLe.trans {w1 w2 w3 : World} {C1 C2 C3 : Cz} (h : CzLe w1 C1 w2 C2) (k : CzLe w2 C2 w3 C3) : CzLe w1 C1 w3 C3 :=
  ⟨fun b r hb => by
    obtain ⟨h1, h2⟩ := h.rg b r hb
    obtain ⟨k1, k2⟩ := k.rg b r h1
    exact ⟨k1, k2.trans h2⟩,
   fun i e he => by
    obtain ⟨e1, h1, h2⟩ := h.θ i e he
    obtain ⟨e2, k1, k2⟩ := k.θ i e1 h1
    exact ⟨e2, k1, h2.trans k2⟩⟩

theorem RepA.mono {w w' : World} {C C' : Cz} (H : CzLe w C w' C') {v : Value} {a : AV} (h : RepA w C v a) : RepA w' C' v a := by
  induction h with
  | d v x h => exact .d v x (h.mono H.rg)
  | ptr o off b e he hr hb =>
    obtain ⟨e', h1, h2⟩ := H.θ o e he
    rcases h2 with rfl | ⟨h2, _⟩
    · exact .ptr o off b e' h1 hr hb
    · rw [hr] at h2; cases h2
  | own o n e he hr hn A c hv =>
    obtain ⟨e', h1, h2⟩ := H.θ o e he
    rcases h2 with rfl | ⟨h2, h3, h4⟩
    · exact .own o n e' h1 hr hn A c hv
    · exact .own o n e' h1 h3 (by omega) A c (fun h => by omega)
  | rowp o n k e he hr hn b hv =>
    obtain ⟨e', h1, h2⟩ := H.θ o e he
    rcases h2 with rfl | ⟨h2, h3, h4⟩
    · exact .rowp o n k e' h1 hr hn b hv
    · exact .rowp o n k e' h1 h3 (by omega) b (fun h => by omega)
  | emp A => exact .emp A
  | full A n r sz rows hn h => exact .full A n r sz rows hn (h.mono H.rg)
  | mp o b e he hr hb =>
    obtain ⟨e', h1, h2⟩ := H.θ o e he
    rcases h2 with rfl | ⟨h2, _⟩
    · exact .mp o b e' h1 hr hb
    · rw [hr] at h2; cases h2
  | fn f fs cs first cap vf vc h1 h2 g1 g2 r1 r2 i1 i2 => exact .fn f fs cs first cap vf vc h1 h2 g1 g2 i1 i2
  | ifc t v x h ih => exact .ifc t v x ih
  | ifa t arr cells vs hs hcell hrep ih => exact .ifa t arr cells vs hs hcell ih

theorem RepA.oneCell {w : World} {C : Cz} {v : Value} {a : AV} (h : RepA w C v a) : v.oneCell' = true := by
  cases h with
  | d _ _ h => exact h.oneCell
  | _ => rfl

/-- A row of cells. -/
def RepL (w : World) (C : Cz) (vs : List Value) (as : List AV) : Prop :=
  vs.length = as.length ∧ ∀ (i : Nat) v a, vs[i]? = some v → as[i]? = some a → RepA w C v a

theorem RepL.mono {w w' : World} {C C' : Cz} (H : CzLe w C w' C') {vs : List Value} {as : List AV} (h : RepL w C vs as) : RepL w' C' vs as :=
  ⟨h.1, fun i v a h1 h2 => (h.2 i v a h1 h2).mono H⟩

inductive RepV (w : World) (C : Cz) : Value → Val → Prop
  | c (v : Value) (a : AV) (h : RepA w C v a) : RepV w C v (.c a)
  | agg (arr : Array Value) (cells : List AV) (h : RepL w C arr.toList cells) : RepV w C (.agg arr) (.agg cells)
  | tup (arr : Array Value) (vs : List Val) (hs : arr.size = vs.length) (h : ∀ (i : Nat) v x, arr[i]? = some v → vs[i]? = some x → RepV w C v x) : RepV w C (.tuple arr) (.tup vs)
  | junk (v : Value) : RepV w C v .junk

theorem RepV.mono {w w' : World} {C C' : Cz} (H : CzLe w C w' C') {v : Value} {x : Val} (h : RepV w C v x) : RepV w' C' v x := by
  induction h with
  | c v a h => exact .c v a (h.mono H)
  | agg arr cells h => exact .agg arr cells (h.mono H)
  | tup arr vs hs h ih => exact .tup arr vs hs ih
  | junk v => exact .junk v

/-! ### Objects, states -/
def AObj.live : AObj → Bool
  | .var _ | .row _ _ _ | .mp _ _ _ => true
  | _ => false

def ObjOk (w : World) (C : Cz) (e : Ent) : AObj → Prop
  | .var cells => e.row = false ∧ ∃ b cs ty, e.b = some b ∧ w.heap[b]? = some (.cells cs ty (0, 0)) ∧ RepL w C cs.toList cells
  | .row t sz rows => e.row = true ∧ e.len = rows.length ∧ e.b = e.val.ownBlock ∧ 0 < sz ∧ (∀ row, row ∈ rows → row.length = sz) ∧
      ∃ xs, w.ownsRow 0 t sz e.val rows.length xs ∧ ∀ (j i : Nat) row x, rows[j]? = some row → row[i]? = some x → ∃ v, xs[j * sz + i]? = some v ∧ RepD w C.rg v x
  | .frz r cells => e.row = false ∧ ∃ b cs ty fz, e.b = some b ∧ C.rg b = some r ∧ w.heap[b]? = some (.cells cs ty fz) ∧
      ∀ (i : Nat) x, cells[i]? = some x → ∃ v, cs[i]? = some v ∧ RepD w C.rg v x
  | .mp k t es => False
  | .gone => True

structure Inv (w : World) (C : Cz) (σ : List AObj) : Prop where
  len : C.θ.length = σ.length
  ok : ∀ (i : Nat) o e, σ[i]? = some o → C.θ[i]? = some e → ObjOk w C e o
  unrg : ∀ (i : Nat) o e b, σ[i]? = some o → o.live = true → C.θ[i]? = some e → e.b = some b → C.rg b = none ∧ b < w.heap.size
  apart : ∀ (i j : Nat) o p e f b, σ[i]? = some o → σ[j]? = some p → o.live = true → p.live = true → C.θ[i]? = some e → C.θ[j]? = some f → e.b = some b → f.b = some b → i = j
  rgs : ∀ b r, C.rg b = some r → b < w.heap.size

/-- b is a block of a live object. -/
def Lives (C : Cz) (σ : List AObj) (b : Nat) : Prop := ∃ (i : Nat) (o : AObj) (e : Ent), σ[i]? = some o ∧ o.live = true ∧ C.θ[i]? = some e ∧ e.b = some b

structure Ext (w : World) (C : Cz) (σ : List AObj) (w' : World) (C' : Cz) (σ' : List AObj) : Prop where
  os : w'.os = w.os
  tape : w'.tape = w.tape
  output : w'.output = w.output
  size : w.heap.size ≤ w'.heap.size
  le : CzLe w C w' C'
  frame : ∀ b, b < w.heap.size → ¬ Lives C σ b → w'.heap[b]? = w.heap[b]?
  lives : ∀ b, Lives C' σ' b → Lives C σ b ∨ w.heap.size ≤ b
  newrg : ∀ b r, C'.rg b = some r → C.rg b = some r ∨ Lives C σ b ∨ w.heap.size ≤ b

theorem Ext.refl (w : World) (C : Cz) (σ : List AObj) : Ext w C σ w C σ :=
  ⟨rfl, rfl, rfl, Nat.le_refl _, .refl w C, fun _ _ _ => rfl, fun _ h => .inl h, fun _ _ h => .inl h⟩

theorem Ext.trans {w1 w2 w3 : World} {C1 C2 C3 : Cz} {s1 s2 s3 : List AObj} (h : Ext w1 C1 s1 w2 C2 s2) (k : Ext w2 C2 s2 w3 C3 s3) : Ext w1 C1 s1 w3 C3 s3 where
  os := k.os.trans h.os
  tape := k.tape.trans h.tape
  output := k.output.trans h.output
  size := Nat.le_trans h.size k.size
  le := h.le.trans k.le
  frame := fun b hb hn => (k.frame b (Nat.lt_of_lt_of_le hb h.size) (fun hl => by
    rcases h.lives b hl with h1 | h1
    · exact hn h1
    · omega)).trans (h.frame b hb hn)
  lives := fun b hb => by
    rcases k.lives b hb with h1 | h1
    · exact h.lives b h1
    · exact .inr (Nat.le_trans h.size h1)
  newrg := fun b r hb => by
    rcases k.newrg b r hb with h1 | h1 | h1
    · exact h.newrg b r h1
    · rcases h.lives b h1 with h2 | h2
      · exact .inr (.inl h2)
      · exact .inr (.inr h2)
    · exact .inr (.inr (Nat.le_trans h.size h1))

structure Dfr where
  f : FuncId
  args : List AV

/-- A state of a body: so many slots; what they hold (the newest first); the objects; the deferred calls. -/
structure St where
  n : Nat
  env : List (Nat × Val)
  σ : List AObj
  ds : List Dfr

def get : List (Nat × Val) → Nat → Val
  | [], _ => .junk
  | (s, v) :: r, t => bif Nat.beq s t then v else get r t

def DfrOk (w : World) (C : Cz) (d : Deferred) (x : Dfr) : Prop :=
  ∃ cap : Array Value, d.target = .fn (.func x.f) cap ∧ RepL w C (d.args ++ cap).toList x.args

structure EnvOk (w : World) (C : Cz) (a : Act) (S : St) : Prop where
  size : a.tmps.size = S.n
  env : ∀ t, RepV w C (a.tmps.getD t undef) (get S.env t)
  dlen : a.defers.length = S.ds.length
  ds : ∀ (i : Nat) d x, a.defers[i]? = some d → S.ds[i]? = some x → DfrOk w C d x

theorem DfrOk.mono {w w' : World} {C C' : Cz} (H : CzLe w C w' C') {d : Deferred} {x : Dfr} (h : DfrOk w C d x) : DfrOk w' C' d x := by
  obtain ⟨cap, h1, h2⟩ := h
  exact ⟨cap, h1, h2.mono H⟩

theorem EnvOk.mono {w w' : World} {C C' : Cz} (H : CzLe w C w' C') {a : Act} {S : St} (h : EnvOk w C a S) : EnvOk w' C' a S :=
  ⟨h.size, fun t => (h.env t).mono H, h.dlen, fun i d x h1 h2 => (h.ds i d x h1 h2).mono H⟩

theorem get_cons (s : Nat) (v : Val) (r : List (Nat × Val)) (t : Nat) : get ((s, v) :: r) t = if s = t then v else get r t := by
  show (bif Nat.beq s t then v else get r t) = _
  by_cases h : s = t
  · subst h; simp
  · rw [if_neg h]
    have : Nat.beq s t = false := by
      rw [Bool.eq_false_iff]
      exact fun hh => h (Nat.eq_of_beq_eq_true hh)
    rw [this]; rfl

theorem EnvOk.put {w : World} {C : Cz} {a : Act} {S : St} (h : EnvOk w C a S) {d : Nat} (hd : d < S.n) {v : Value} {x : Val} (hx : RepV w C v x) :
    EnvOk w C (a.put (some d) v) { S with env := (d, x) :: S.env } := by
  refine ⟨by simpa [Act.put] using h.size, fun t => ?_, h.dlen, h.ds⟩
  simp only [Act.put, get_cons]
  by_cases e : d = t
  · subst e
    rw [if_pos rfl]
    have : (a.tmps.setIfInBounds d v).getD d undef = v := by
      simp [Array.getD_eq_getD_getElem?, h.size, hd]
    rw [this]; exact hx
  · rw [if_neg e]
    have : (a.tmps.setIfInBounds d v).getD t undef = a.tmps.getD t undef := by
      simp [Array.getD_eq_getD_getElem?, Array.getElem?_setIfInBounds, e]
    rw [this]; exact h.env t

end Go.Proofs.Ytdhkopangbgehaa.E
