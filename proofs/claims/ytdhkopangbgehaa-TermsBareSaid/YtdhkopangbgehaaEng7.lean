/- The engine, part 7: slices told by their elements, addresses, fields, elements, tests and arithmetic. No conditions. -/
import Derived.Test.YtdhkopangbgehaaEng6
import Derived.Great.BuildSlice
import Derived.Lib.Strings
set_option linter.unusedVariables false
set_option linter.unusedSimpArgs false
namespace Go.Proofs.Ytdhkopangbgehaa.E
open Go

section
variable {P : Program} {T : Tab} (HT : TabOk P T)

include HT in
theorem ok_buildSlice {w : World} {C : Cz} {σ : List AObj} (ρ : Nat) (hI : Inv w C σ) {t len : Nat} {parts : Array (Nat × Value)} {ps : List (Nat × Val)} (hp : RepP w C parts.toList ps) {K : Val → List AObj → Prop}
    (hk : aBuildSlice T ρ σ t len ps K) : OK1 P (Instr.buildSlice t len parts) w C σ K := by
  unfold aBuildSlice at hk
  split at hk
  · rename_i i hi
    obtain ⟨info, d, z, h1, h2, h3, h4, h6, h7, h8, h9, h10, h11, h12⟩ := ti_parts (HT.ti t i hi)
    split at hk
    · rename_i e hik
      rw [hik] at h3
      have := kind_sl h3
      subst this
      split at hk
      · rename_i j hj
        obtain ⟨ie, _, ze, k1, k2, k3, k4, k6, k7, k8, k9, k10, k11, k12⟩ := ti_parts (HT.ti e j hj)
        cases hg : natEq j.sz 0 || decide (1000 < len) || decide (1000 < j.sz) with
        | true => rw [hg] at hk; exact hk.elim
        | false =>
        rw [hg] at hk
        simp only [cond_false] at hk
        simp only [Bool.or_eq_false_iff, decide_eq_false_iff_not] at hg
        obtain ⟨⟨g1, g2⟩, g3⟩ := hg
        have hpos : 0 < j.sz := by
          rcases Nat.eq_zero_or_pos j.sz with h0 | h0
          · rw [h0] at g1; cases g1
          · exact h0
        split at hk
        · have hnil : parts.toList = [] := List.eq_nil_of_length_eq_zero hp.1
          have hsz : w.heap.size < (w.alloc (.cells #[] e)).heap.size := by simp
          have hold : ∀ b, b < w.heap.size → (w.alloc (.cells #[] e)).heap[b]? = w.heap[b]? := fun b hb => alloc_old w _ hb
          refine ⟨.slice (some ⟨w.heap.size, 0, none⟩) 0 0, w.alloc (.cells #[] e), _, _, _, ?_, hk, (hI.reg ρ hsz hold).2, Ext.reg hI ρ rfl rfl rfl hsz hold, .c _ _ (.emp _)⟩
          have hpn : parts = #[] := by simpa using hnil
          subst hpn
          simp [Instr.buildSlice, run_underlying h2, sizeOf, typeInfo, k1, Instr.fill, newRow]
          rw [Array.range_zero', Array.map_empty]
        · exact hk.elim
        · rename_i len
          obtain ⟨C1, qs, σ1, q1, l1, I1, E1, p1⟩ := aParts_ok ρ j ps hI parts.toList hp hk
          have hz := zcells_rep (w := w) (C := C1) (j := j) k9 k10 hpos ((len + 1) * j.sz)
          obtain ⟨arr, cells, f1, f2, f3⟩ := ok_fill (T := T) (fun k => some (k * j.sz, j.sz)) (fun k => some (k * ie.size, ie.size)) (fun f y hy => by rw [k4]; exact hy) parts.toList qs p1.1 p1.2 _ _ hz _ q1
          split at f2
          · rename_i ds hds
            split at f2
            · rename_i rows hrows
              obtain ⟨c1, c2, c3, c4⟩ := chunk_some hrows
              have hsz : w.heap.size < (w.alloc (.cells arr e)).heap.size := by simp
              have hold : ∀ b, b < w.heap.size → (w.alloc (.cells arr e)).heap[b]? = w.heap[b]? := fun b hb => alloc_old w _ hb
              obtain ⟨u1, u2⟩ := I1.reg ρ hsz hold
              have hmul : (len + 1) * j.sz ≤ 1000 * 1000 := Nat.mul_le_mul (by omega) (by omega)
              refine ⟨.slice (some ⟨w.heap.size, 0, none⟩) (len + 1) (len + 1), w.alloc (.cells arr e), C1.reg w.heap.size ρ, _, _, ?_, f2, u2, E1.trans (Ext.reg I1 ρ rfl rfl rfl hsz hold), .c _ _ (.d _ _ ?_)⟩
              · refine run_buildSlice w t e (len + 1) parts arr ie ze h2 k1 k8 (by rw [k4]; simp; omega) (by rw [k4]; have := Nat.mul_pos (show 0 < len + 1 by omega) hpos; omega) ?_
                rw [k4] at f1 ⊢
                exact f1
              · have hrl := f3.1
                have hds' := allD_some hds
                refine .sl ρ j.sz w.heap.size 0 (len + 1) (len + 1) rows arr e (0, 0) (fun a b => (arr[a * j.sz + b]?).getD undef) (by simp [Cz.reg]) (alloc_new w _) c1.symm (Nat.le_refl _) c3 (fun a b ha hb => ?_) (fun a b row x ha hb => ?_)
                · have : a * j.sz + b < (len + 1) * j.sz := by
                    have h0 : a * j.sz + j.sz ≤ (len + 1) * j.sz := by rw [← Nat.succ_mul]; exact Nat.mul_le_mul_right _ ha
                    omega
                  rw [Nat.zero_add, Array.getElem?_eq_getElem (by simp at hrl; rw [hrl, hds']; simp; omega)]; rfl
                · have hx := c4 a b row x ha hb
                  exact ((allD_cells f3 hds (a * j.sz + b)).2 x hx).mono u1.rg
            · exact f2.elim
          · exact f2.elim
      · exact hk.elim
    · exact hk.elim
  · exact hk.elim

/-! ### Addresses -/
def aNil (x : Val) (K : Val → Prop) : Prop :=
  match x with
  | .c (.ptr o k) => K (.c (.ptr o k))
  | .c (.d (.rp r cs)) => K (.c (.d (.rp r cs)))
  | .c (.rowp o n k) => K (.c (.rowp o n k))
  | .c (.fn f a b) => K (.c (.fn f a b))
  | _ => False

theorem ok_nil {w : World} {C : Cz} {u : Value} {x : Val} (hx : RepV w C u x) {K : Val → Prop} (hk : aNil x K) : K x ∧ ((∃ a, u = .pointer (some a)) ∨ (∃ f a b, u = .func (.func f) a b)) := by
  unfold aNil at hk
  split at hk
  · refine ⟨hk, .inl ?_⟩
    obtain ⟨_, _, hx⟩ | _ := hx
    cases hx; exact ⟨_, rfl⟩
  · refine ⟨hk, .inl ?_⟩
    obtain ⟨_, _, hx⟩ | _ := hx
    have := repA_d hx
    cases this; exact ⟨_, rfl⟩
  · refine ⟨hk, .inl ?_⟩
    obtain ⟨_, _, hx⟩ | _ := hx
    cases hx; exact ⟨_, rfl⟩
  · refine ⟨hk, .inr ?_⟩
    obtain ⟨_, _, hx⟩ | _ := hx
    cases hx; exact ⟨_, _, _, rfl⟩
  · exact hk.elim

/-- An address a few cells on. -/
def aOff (x : Val) (off : Nat) (K : Val → Prop) : Prop :=
  match x with
  | .c (.ptr o k) => K (.c (.ptr o (k + off)))
  | .c (.d (.rp r cs)) => K (.c (.d (.rp r (cs.drop off))))
  | .c (.rowp o n k) => K (.c (.rowp o n (k + off)))
  | _ => False

theorem ok_off {w : World} {C : Cz} {u : Value} {x : Val} (hx : RepV w C u x) {off : Nat} {K : Val → Prop} (hk : aOff x off K) :
    ∃ b o y, u = .pointer (some ⟨b, o, none⟩) ∧ K y ∧ RepV w C (.pointer (some ⟨b, o + off, none⟩)) y := by
  unfold aOff at hk
  split at hk
  · rename_i o k
    obtain ⟨_, _, hx⟩ | _ := hx
    cases hx with
    | ptr _ _ b e he hr hb => exact ⟨b, k, _, rfl, hk, .c _ _ (.ptr o (k + off) b e he hr hb)⟩
  · obtain ⟨_, _, hx⟩ | _ := hx
    have hd := repA_d hx
    cases hd with
    | rp _ b o _ cs e fz vs hr hh hcell hrep =>
      refine ⟨b, o, _, rfl, hk, .c _ _ (.d _ _ (.rp _ b (o + off) _ cs e fz (fun i => vs (off + i)) hr hh (fun i hi => ?_) (fun i x hx => ?_)))⟩
      · simp only [List.length_drop] at hi
        rw [Nat.add_assoc]; exact hcell (off + i) (by omega)
      · rw [List.getElem?_drop] at hx; exact hrep (off + i) x hx
  · rename_i o n k
    obtain ⟨_, _, hx⟩ | _ := hx
    cases hx with
    | rowp _ _ _ e he hr hn b hv => exact ⟨b, k, _, rfl, hk, .c _ _ (.rowp o n (k + off) e he hr hn b hv)⟩
  · exact hk.elim

theorem addr_add (b o n : Nat) : (⟨b, o, none⟩ : Addr).add n = ⟨b, o + n, none⟩ := Addr.add_mid b o n

def aFieldAddr (T : Tab) (s : Nat) (x : Val) (f : Nat) (K : Val → Prop) : Prop :=
  match T.ti s with
  | some i => match i.k with
    | .strct => match i.flds[f]? with
      | some (off, ty) => aOff x off K
      | none => False
    | _ => False
  | none => False

include HT in
theorem ok_fieldAddr {w : World} {C : Cz} {σ : List AObj} (hI : Inv w C σ) {s f : Nat} {u : Value} {x : Val} (hx : RepV w C u x) {K : Val → List AObj → Prop} (hk : aFieldAddr T s x f (fun y => K y σ)) :
    OK1 P (Instr.fieldAt s u f) w C σ K := by
  unfold aFieldAddr at hk
  split at hk
  · rename_i i hi
    obtain ⟨info, d, z, h1, h2, h3, h4, h6, h7, h8, h9, h10, h11, h12⟩ := ti_parts (HT.ti s i hi)
    split at hk
    · rename_i hik
      rw [hik] at h3
      obtain ⟨fs, rfl⟩ := kind_strct h3
      obtain ⟨f1, f2⟩ := h7 fs hik rfl
      split at hk
      · rename_i off ty hfl
        obtain ⟨fd, jj, g1, g2, g3, g4, g5⟩ := fldsOk_get i.flds 0 f1 f off ty hfl
        simp only [Nat.zero_add] at g1
        obtain ⟨b, o, y, rfl, hk, hr⟩ := ok_off hx hk
        refine OK1.same hI ?_ hk hr
        simp [Instr.fieldAt, run_underlying h2, g1, Instr.sureAddr, fieldPlace, sizeOf, typeInfo, g3, g4, g5, addr_add, g2]
      · exact hk.elim
    · exact hk.elim
  · exact hk.elim

/-- A part of an aggregate. -/
theorem ok_part {w : World} {C : Cz} {σ : List AObj} (hI : Inv w C σ) {ty : Nat} {j : TI} (hj : T.ti ty = some j) (hok : TabOk P T) {arr : Array Value} {cells : List AV} (hr : RepL w C arr.toList cells) (off : Nat)
    {K : Val → List AObj → Prop} (hk : aCells j (cells.drop off) (fun y => K y σ)) : OK1 P (part ty arr off) w C σ K := by
  obtain ⟨info, d, z, h1, h2, h3, h4, h6, h7, h8, h9, h10, h11, h12⟩ := ti_parts (hok.ti ty j hj)
  have hrd := hr.drop off
  unfold aCells at hk
  cases ha : j.agg with
  | true =>
    rw [ha] at hk
    simp only [cond_true] at hk
    split at hk
    · rename_i ys hy
      obtain ⟨g1, g2, g3⟩ := takeN_some hy
      have hag : (isAgg ty).run P w = .ok true w := by
        unfold isAgg
        rw [Sem.run_bind, run_underlying h2 w]
        rw [ha] at h11
        cases d <;> simp_all [TypeDesc.isRow]
      refine OK1.same hI (v := .agg (arr.extract off (off + j.sz))) ?_ hk (.agg _ _ ?_)
      · simp [part, hag, sizeOf, typeInfo, h1, h4]
      · rw [g3]
        have := hrd.take j.sz
        simpa [Array.toList_extract, List.extract_eq_take_drop] using this
    · exact hk.elim
  | false =>
    rw [ha] at hk
    simp only [cond_false] at hk
    split at hk
    · rename_i a l hcd
      have hag : (isAgg ty).run P w = .ok false w := by
        unfold isAgg
        rw [Sem.run_bind, run_underlying h2 w]
        rw [ha] at h11
        cases d <;> simp_all [TypeDesc.isRow]
      obtain ⟨v, hv⟩ : ∃ v, (arr.toList.drop off)[0]? = some v := ⟨_, List.getElem?_eq_getElem (by rw [hrd.1, hcd]; simp)⟩
      have hrv := hrd.2 0 v a hv (by rw [hcd]; rfl)
      rw [List.getElem?_drop, Nat.add_zero, Array.getElem?_toList] at hv
      exact OK1.same hI (v := v) (by simp [part, hag, hv]) hk (.c _ _ hrv)
    · exact hk.elim

def aField (T : Tab) (s : Nat) (x : Val) (f : Nat) (K : Val → Prop) : Prop :=
  match T.ti s with
  | some i => match i.k with
    | .strct => match i.flds[f]?, x with
      | some (off, ty), .agg cells => match T.ti ty with
        | some j => aCells j (cells.drop off) K
        | none => False
      | _, _ => False
    | _ => False
  | none => False

include HT in
theorem ok_field {w : World} {C : Cz} {σ : List AObj} (hI : Inv w C σ) {s f : Nat} {u : Value} {x : Val} (hx : RepV w C u x) {K : Val → List AObj → Prop} (hk : aField T s x f (fun y => K y σ)) :
    OK1 P (Instr.field s u f) w C σ K := by
  unfold aField at hk
  split at hk
  · rename_i i hi
    obtain ⟨info, d, z, h1, h2, h3, h4, h6, h7, h8, h9, h10, h11, h12⟩ := ti_parts (HT.ti s i hi)
    split at hk
    · rename_i hik
      rw [hik] at h3
      obtain ⟨fs, rfl⟩ := kind_strct h3
      obtain ⟨f1, f2⟩ := h7 fs hik rfl
      split at hk
      · rename_i off ty cells hfl
        split at hk
        · rename_i j hj
          obtain ⟨fd, jj, g1, g2, g3, g4, g5⟩ := fldsOk_get i.flds 0 f1 f off ty hfl
          simp only [Nat.zero_add] at g1
          cases hx with
          | agg arr _ hr =>
          obtain ⟨v, w', C', y, σ', r1, r2⟩ := ok_part hI hj HT hr off hk
          refine ⟨v, w', C', y, σ', ?_, r2⟩
          simp [Instr.field, run_underlying h2, g1, asAgg, g3, g2, r1]
        · exact hk.elim
      · exact hk.elim
    · exact hk.elim
  · exact hk.elim

/-! ### Elements -/
def aIndexAddr (T : Tab) (σ : List AObj) (t : Nat) (x ix : Val) (K : Val → Prop) : Prop :=
  match T.ti t with
  | some i => match i.k with
    | .sl e => match T.ti e with
      | some j => match x, ix with
        | .c (.d (.sl r sz rows)), .c (.d (.int k n)) => bif natEq sz j.sz then ((0 ≤ n ∧ n < rows.length) ∧ ∀ row, rows[n.toNat]? = some row → K (.c (.d (.rp r row)))) else False
        | .c (.full r sz rows), .c (.d (.int k n)) => bif natEq sz j.sz then ((0 ≤ n ∧ n < rows.length) ∧ ∀ row, rows[n.toNat]? = some row → K (.c (.d (.rp r row)))) else False
        | .c (.own o m), .c (.d (.int k n)) => match σ[o]? with
          | some (.row _ sz rows) => bif natEq sz j.sz then ((m = rows.length ∧ 0 ≤ n ∧ n < rows.length) ∧ K (.c (.rowp o m (n.toNat * sz)))) else False
          | _ => False
        | _, _ => False
      | none => False
    | .arr len e => match T.ti e with
      | some j => match ix with
        | .c (.d (.int k n)) => (0 ≤ n ∧ n < len) ∧ aOff x (n.toNat * j.sz) K
        | _ => False
      | none => False
    | _ => False
  | none => False

theorem int_of {w : World} {C : Cz} {v : Value} {k : IntKind} {n : Int} (h : RepV w C v (.c (.d (.int k n)))) : v = .int k n := by
  obtain ⟨_, _, hx⟩ | _ := h
  have := repA_d hx
  cases this; rfl

theorem rp_of_sl {w : World} {rg : Nat → Option Nat} {A : Option Addr} {m c r sz : Nat} {rows : List (List DV)} (h : RepD w rg (.slice A m c) (.sl r sz rows)) {n : Nat} {row : List DV} (hrow : rows[n]? = some row) :
    m = rows.length ∧ ∃ b o, A = some ⟨b, o, none⟩ ∧ RepD w rg (.pointer (some ⟨b, o + n * sz, none⟩)) (.rp r row) := by
  have hn := (List.getElem?_eq_some_iff.1 hrow).1
  cases h with
  | sl0 => simp at hn
  | sl _ _ b o _ _ _ cs e fz vs hr hh hm hc hsz hcell hrep =>
    have hrl : row.length = sz := hsz row (List.mem_of_getElem? hrow)
    refine ⟨hm, b, o, rfl, .rp r b (o + n * sz) row cs e fz (fun i => vs n i) hr hh (fun i hi => hcell n i (by omega) (by omega)) (fun i x hx => hrep n i row x hrow hx)⟩

include HT in
theorem ok_indexAddr {w : World} {C : Cz} {σ : List AObj} (hI : Inv w C σ) {t : Nat} {u v : Value} {x ix : Val} (hx : RepV w C u x) (hv : RepV w C v ix) {K : Val → List AObj → Prop} (hk : aIndexAddr T σ t x ix (fun y => K y σ)) :
    OK1 P (Instr.indexAt t u v) w C σ K := by
  unfold aIndexAddr at hk
  split at hk
  · rename_i i hi
    obtain ⟨info, d, z, h1, h2, h3, h4, h6, h7, h8, h9, h10, h11, h12⟩ := ti_parts (HT.ti t i hi)
    split at hk
    · rename_i e hik
      rw [hik] at h3
      have := kind_sl h3
      subst this
      split at hk
      · rename_i j hj
        obtain ⟨ie, _, ze, k1, k2, k3, k4, k6, k7, k8, k9, k10, k11, k12⟩ := ti_parts (HT.ti e j hj)
        have run : ∀ (b o m c : Nat) (k : IntKind) (n : Int), 0 ≤ n → n < m → (Instr.indexAt t (.slice (some ⟨b, o, none⟩) m c) (.int k n)).run P w = .ok (.pointer (some ⟨b, o + n.toNat * j.sz, none⟩)) w := fun b o m c k n h0 hm => by
          simp [Instr.indexAt, asIntOf, run_underlying h2, h0, hm, sizeOf, typeInfo, k1, k4, addr_add]
        split at hk
        · rename_i r sz rows k n
          cases hn : natEq sz j.sz with
          | false => rw [hn] at hk; exact hk.elim
          | true =>
          rw [hn] at hk
          obtain ⟨⟨b1, b2⟩, hk⟩ := hk
          have hsz := natEq_eq hn
          have hvv := int_of hv
          subst hvv
          obtain ⟨_, _, hx⟩ | _ := hx
          have hd := repA_d hx
          obtain ⟨A, m, c, rfl⟩ : ∃ A m c, u = .slice A m c := by cases hd <;> exact ⟨_, _, _, rfl⟩
          have hrow : rows[n.toNat]? = some (rows[n.toNat]'(by omega)) := List.getElem?_eq_getElem _
          obtain ⟨hm, b, o, rfl, hrp⟩ := rp_of_sl hd hrow
          exact OK1.same hI (run b o m c k n b1 (by omega)) (hk _ hrow) (.c _ _ (.d _ _ (by rw [← hsz]; exact hrp)))
        · rename_i r sz rows k n
          cases hn : natEq sz j.sz with
          | false => rw [hn] at hk; exact hk.elim
          | true =>
          rw [hn] at hk
          obtain ⟨⟨b1, b2⟩, hk⟩ := hk
          have hsz := natEq_eq hn
          have hvv := int_of hv
          subst hvv
          obtain ⟨_, _, hx⟩ | _ := hx
          cases hx with
          | full A m _ _ _ hml hd =>
          have hrow : rows[n.toNat]? = some (rows[n.toNat]'(by omega)) := List.getElem?_eq_getElem _
          obtain ⟨hm, b, o, rfl, hrp⟩ := rp_of_sl hd hrow
          exact OK1.same hI (run b o m m k n b1 (by omega)) (hk _ hrow) (.c _ _ (.d _ _ (by rw [← hsz]; exact hrp)))
        · rename_i o m k n
          split at hk
          · rename_i _ sz rows ho
            cases hn : natEq sz j.sz with
            | false => rw [hn] at hk; exact hk.elim
            | true =>
            rw [hn] at hk
            obtain ⟨⟨b0, b1, b2⟩, hk⟩ := hk
            have hsz := natEq_eq hn
            have hvv := int_of hv
            subst hvv
            obtain ⟨_, _, hx⟩ | _ := hx
            cases hx with
            | own _ _ en he hr hle A c hval =>
            obtain ⟨g1, g2, g3, g4, g5, xs, g6, g7⟩ := hI.ok o _ en ho he
            have hval := hval (by rw [b0, g2])
            rcases g6.2 with ⟨q1, q2⟩ | ⟨g, cap, cur, q1, _, q3, q4, q5, q6, q7⟩
            · omega
            · rw [q1] at hval
              cases hval
              refine OK1.same hI (run g 0 _ _ k n b1 (by omega)) hk (.c _ _ ?_)
              rw [Nat.zero_add, hsz]
              exact .rowp o _ _ en he hr hle g (fun _ => by rw [g3, q1]; rfl)
          · exact hk.elim
        · exact hk.elim
      · exact hk.elim
    · rename_i len e hik
      rw [hik] at h3
      have := kind_arr h3
      subst this
      split at hk
      · rename_i j hj
        obtain ⟨ie, _, ze, k1, k2, k3, k4, k6, k7, k8, k9, k10, k11, k12⟩ := ti_parts (HT.ti e j hj)
        split at hk
        · rename_i k n
          obtain ⟨⟨b1, b2⟩, hk⟩ := hk
          have hvv := int_of hv
          subst hvv
          obtain ⟨b, o, y, rfl, hk, hr⟩ := ok_off hx hk
          refine OK1.same hI ?_ hk hr
          simp [Instr.indexAt, asIntOf, run_underlying h2, Instr.sureAddr, b1, b2, sizeOf, typeInfo, k1, k4, addr_add]
        · exact hk.elim
      · exact hk.elim
    · exact hk.elim
  · exact hk.elim

def byteAt (s : ByteArray) (n : Int) : Int := (((s.data.toList[n.toNat]?).getD 0).toNat : Int)

def aIndex (T : Tab) (t : Nat) (x ix : Val) (K : Val → Prop) : Prop :=
  match T.ti t with
  | some i => match i.k, x, ix with
    | .str, .c (.d (.str s)), .c (.d (.int k n)) => (0 ≤ n ∧ n < s.size) ∧ K (.c (.d (.int .u8 (byteAt s n))))
    | .arr len e, .agg cells, .c (.d (.int k n)) => match T.ti e with
      | some j => (0 ≤ n ∧ n < len) ∧ aCells j (cells.drop (n.toNat * j.sz)) K
      | none => False
    | _, _, _ => False
  | none => False

theorem kind_str {d : TypeDesc} (h : kindOk .str d = true) : d = .string := by cases d <;> first | (cases h; done) | rfl
theorem str_of {w : World} {C : Cz} {v : Value} {s : ByteArray} (h : RepV w C v (.c (.d (.str s)))) : v = .string s := by
  obtain ⟨_, _, hx⟩ | _ := h
  have := repA_d hx
  cases this; rfl
theorem bool_of {w : World} {C : Cz} {v : Value} {b : Bool} (h : RepV w C v (.c (.d (.bool b)))) : v = .bool b := by
  obtain ⟨_, _, hx⟩ | _ := h
  have := repA_d hx
  cases this; rfl

include HT in
theorem ok_index {w : World} {C : Cz} {σ : List AObj} (hI : Inv w C σ) {t : Nat} {u v : Value} {x ix : Val} (hx : RepV w C u x) (hv : RepV w C v ix) {K : Val → List AObj → Prop} (hk : aIndex T t x ix (fun y => K y σ)) :
    OK1 P (Instr.index t u v) w C σ K := by
  unfold aIndex at hk
  split at hk
  · rename_i i hi
    obtain ⟨info, d, z, h1, h2, h3, h4, h6, h7, h8, h9, h10, h11, h12⟩ := ti_parts (HT.ti t i hi)
    split at hk
    · rename_i s k n hik
      rw [hik] at h3
      have := kind_str h3
      subst this
      obtain ⟨⟨b1, b2⟩, hk⟩ := hk
      have hvv := int_of hv
      subst hvv
      have hss := str_of hx
      subst hss
      refine OK1.same hI (v := .int .u8 (byteAt s n)) ?_ hk (.c _ _ (.d _ _ (.int _ _)))
      have hlt : n.toNat < s.size := by omega
      have e1 : s[n.toNat]? = some (s[n.toNat]'hlt) := by simp [hlt]
      have e2 : byteAt s n = ((s[n.toNat]'hlt).toNat : Int) := by
        have : s.data.toList[n.toNat]? = some (s[n.toNat]'hlt) := by
          rw [Array.getElem?_toList]
          have : n.toNat < s.data.size := hlt
          rw [Array.getElem?_eq_getElem this]; rfl
        simp [byteAt, this]
      simp [Instr.index, asIntOf, run_underlying h2, b1, e1, e2]
    · rename_i len e cells k n hik
      rw [hik] at h3
      have := kind_arr h3
      subst this
      split at hk
      · rename_i j hj
        obtain ⟨ie, _, ze, k1, k2, k3, k4, k6, k7, k8, k9, k10, k11, k12⟩ := ti_parts (HT.ti e j hj)
        obtain ⟨⟨b1, b2⟩, hk⟩ := hk
        have hvv := int_of hv
        subst hvv
        cases hx with
        | agg arr _ hr =>
        obtain ⟨v, w', C', y, σ', r1, r2⟩ := ok_part hI hj HT hr _ hk
        refine ⟨v, w', C', y, σ', ?_, r2⟩
        simp [Instr.index, asIntOf, run_underlying h2, b1, b2, sizeOf, typeInfo, k1, k4, r1]
      · exact hk.elim
    · exact hk.elim
  · exact hk.elim

end
end Go.Proofs.Ytdhkopangbgehaa.E
