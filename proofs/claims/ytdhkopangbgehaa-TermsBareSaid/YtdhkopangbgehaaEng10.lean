/- The engine, part 10: cuts, made slices, appends. No conditions. -/
import Derived.Test.YtdhkopangbgehaaEng9
set_option linter.unusedVariables false
set_option linter.unusedSimpArgs false
namespace Go.Proofs.Ytdhkopangbgehaa.E
open Go

section
variable {P : Program} {T : Tab} (HT : TabOk P T)

/-! ### Cuts -/
def intV (x : Val) (K : Int → Prop) : Prop := match x with | .c (.d (.int k n)) => K n | _ => False

def aSlice (T : Tab) (t : Nat) (x : Val) (lo hi mx : Option Val) (K : Val → Prop) : Prop :=
  match T.ti t with
  | some i => match i.k, x, lo, hi, mx with
    | .str, .c (.d (.str s)), none, some h, none => intV h fun b => (0 ≤ b ∧ b ≤ s.size) ∧ K (.c (.d (.str (s.extract 0 b.toNat))))
    | .str, .c (.d (.str s)), some l, none, none => intV l fun a => (0 ≤ a ∧ a ≤ s.size) ∧ K (.c (.d (.str (s.extract a.toNat s.size))))
    | .str, .c (.d (.str s)), some l, some h, none => intV l fun a => intV h fun b => (0 ≤ a ∧ a ≤ b ∧ b ≤ s.size) ∧ K (.c (.d (.str (s.extract a.toNat b.toNat))))
    | .sl e, .c (.d (.sl r sz rows)), none, some h, some m => match T.ti e with
      | some j => intV h fun b => intV m fun c => (b = rows.length ∧ c = rows.length) ∧ K (.c (.full r sz rows))
      | none => False
    | .sl e, .c (.d .nils), none, some h, some m => match T.ti e with
      | some j => intV h fun b => intV m fun c => (b = 0 ∧ c = 0) ∧ K (.c .emp)
      | none => False
    | .sl e, .c (.d (.sl r sz rows)), some l, none, none => match T.ti e with
      | some j => bif natEq j.sz sz then (intV l fun a => (0 ≤ a ∧ a ≤ rows.length) ∧ K (.c (.d (.sl r sz (rows.drop a.toNat))))) else False
      | none => False
    | .sl e, .c (.d (.sl r sz rows)), none, some h, none => match T.ti e with
      | some j => intV h fun b => (0 ≤ b ∧ b ≤ rows.length) ∧ K (.c (.d (.sl r sz (rows.take b.toNat))))
      | none => False
    | _, _, _, _, _ => False
  | none => False

theorem intV_of {w : World} {C : Cz} {v : Value} {x : Val} (hx : RepV w C v x) {K : Int → Prop} (hk : intV x K) : ∃ k n, v = .int k n ∧ K n := by
  unfold intV at hk
  split at hk
  · exact ⟨_, _, int_of hx, hk⟩
  · exact hk.elim

/-- A value that may not be there. -/
def RepO (w : World) (C : Cz) : Option Value → Option Val → Prop
  | none, none => True
  | some v, some x => RepV w C v x
  | _, _ => False

theorem sl_drop {w : World} {rg : Nat → Option Nat} {A : Option Addr} {m c r sz : Nat} {rows : List (List DV)} (h : RepD w rg (.slice A m c) (.sl r sz rows)) {a : Nat} (ha : a ≤ rows.length) :
    m = rows.length ∧ a ≤ c ∧ RepD w rg (.slice (if c = a then A else A.map (·.add (a * sz))) (m - a) (c - a)) (.sl r sz (rows.drop a)) := by
  cases h with
  | sl0 A r sz c =>
    have : a = 0 := by simpa using ha
    subst this
    refine ⟨rfl, by omega, ?_⟩
    have e : (if c = 0 then A else A.map (·.add (0 * sz))) = A := by
      split
      · rfl
      · cases A <;> simp [Addr.add]
    rw [e]
    exact .sl0 A r sz _
  | sl _ _ b o _ _ _ cs e fz vs hr hh hm hc hsz hcell hrep =>
    refine ⟨hm, by omega, ?_⟩
    by_cases hca : c = a
    · have : m - a = 0 := by omega
      rw [this, List.drop_eq_nil_of_le (by omega)]
      exact .sl0 _ _ _ _
    · rw [if_neg hca]
      simp only [Option.map_some, addr_add]
      refine .sl r sz b (o + a * sz) (m - a) (c - a) _ cs e fz (fun j i => vs (a + j) i) hr hh (by simp; omega) (by omega) (fun row hrow => hsz row (List.mem_of_mem_drop hrow)) (fun j i hj hi => ?_) (fun j i row x hj hi => ?_)
      · have := hcell (a + j) i (by omega) hi
        rw [Nat.add_mul] at this
        rw [← this]; congr 1; omega
      · rw [List.getElem?_drop] at hj
        exact hrep (a + j) i row x hj hi

theorem sl_take {w : World} {rg : Nat → Option Nat} {A : Option Addr} {m c r sz : Nat} {rows : List (List DV)} (h : RepD w rg (.slice A m c) (.sl r sz rows)) {a : Nat} (ha : a ≤ rows.length) :
    m = rows.length ∧ a ≤ c ∧ RepD w rg (.slice A a c) (.sl r sz (rows.take a)) := by
  cases h with
  | sl0 A r sz c =>
    have : a = 0 := by simpa using ha
    subst this
    exact ⟨rfl, by omega, .sl0 A r sz _⟩
  | sl _ _ b o _ _ _ cs e fz vs hr hh hm hc hsz hcell hrep =>
    refine ⟨hm, by omega, ?_⟩
    refine .sl r sz b o a c _ cs e fz vs hr hh (by simp; omega) (by omega) (fun row hrow => hsz row (List.mem_of_mem_take hrow)) (fun j i hj hi => hcell j i (by omega) hi) (fun j i row x hj hi => ?_)
    rw [List.getElem?_take] at hj
    split at hj
    · exact hrep j i row x hj hi
    · cases hj

include HT in
theorem ok_slice {w : World} {C : Cz} {σ : List AObj} (hI : Inv w C σ) {t : Nat} {u : Value} {x : Val} {lo hi mx : Option Value} {lo' hi' mx' : Option Val} (hx : RepV w C u x) (hl : RepO w C lo lo') (hh : RepO w C hi hi') (hm : RepO w C mx mx')
    {K : Val → List AObj → Prop} (hk : aSlice T t x lo' hi' mx' (fun z => K z σ)) : OK1 P (Instr.sliceAt t u lo hi mx) w C σ K := by
  unfold aSlice at hk
  split at hk
  · rename_i i hti
    obtain ⟨_, d, _, h1, h2, h3, _⟩ := ti_parts (HT.ti t i hti)
    split at hk
    · rename_i s h hik
      rw [hik] at h3
      have := kind_str h3
      subst this
      have := str_of hx
      subst this
      cases lo <;> cases hi <;> cases mx <;> first | (exact hl.elim) | (exact hh.elim) | (exact hm.elim) | skip
      obtain ⟨k, n, rfl, ⟨b1, b2⟩, hk⟩ := intV_of hh hk
      exact OK1.same hI (by simp [Instr.sliceAt, run_underlying h2, Instr.slice, Instr.sliceBounds, Instr.sliceBound, asIntOf, b1, b2]) hk (.c _ _ (.d _ _ (.str _)))
    · rename_i s l hik
      rw [hik] at h3
      have := kind_str h3
      subst this
      have := str_of hx
      subst this
      cases lo <;> cases hi <;> cases mx <;> first | (exact hl.elim) | (exact hh.elim) | (exact hm.elim) | skip
      obtain ⟨k, n, rfl, ⟨b1, b2⟩, hk⟩ := intV_of hl hk
      exact OK1.same hI (by simp [Instr.sliceAt, run_underlying h2, Instr.slice, Instr.sliceBounds, Instr.sliceBound, asIntOf, b1, b2]) hk (.c _ _ (.d _ _ (.str _)))
    · rename_i s l h hik
      rw [hik] at h3
      have := kind_str h3
      subst this
      have := str_of hx
      subst this
      cases lo <;> cases hi <;> cases mx <;> first | (exact hl.elim) | (exact hh.elim) | (exact hm.elim) | skip
      obtain ⟨k, a, rfl, hk⟩ := intV_of hl hk
      obtain ⟨k', b, rfl, ⟨b1, b2, b3⟩, hk⟩ := intV_of hh hk
      have c1 : 0 ≤ b := by omega
      have c2 : ¬ (max b 0 < a) := by omega
      exact OK1.same hI (by simp [Instr.sliceAt, run_underlying h2, Instr.slice, Instr.sliceBounds, Instr.sliceBound, asIntOf, b1, b3, c1, c2]) hk (.c _ _ (.d _ _ (.str _)))
    · rename_i e r sz rows h m hik
      rw [hik] at h3
      have := kind_sl h3
      subst this
      cases lo <;> cases hi <;> cases mx <;> first | (exact hl.elim) | (exact hh.elim) | (exact hm.elim) | skip
      split at hk
      · rename_i j hj
        obtain ⟨ie, _, ze, k1, k2, k3, k4, _⟩ := ti_parts (HT.ti e j hj)
        obtain ⟨k, a, rfl, hk⟩ := intV_of hh hk
        obtain ⟨k', b, rfl, ⟨b1, b2⟩, hk2⟩ := intV_of hm hk
        subst b1; subst b2
        have hd := repA_d (c_of hx)
        obtain ⟨A, m', c, rfl⟩ : ∃ A m c, u = .slice A m c := by cases hd <;> exact ⟨_, _, _, rfl⟩
        obtain ⟨t1, t2, t3⟩ := sl_take hd (Nat.le_refl _)
        have hd2 : RepD w C.rg (.slice (if rows.length = 0 then A else A.map (·.add (0 * ie.size))) rows.length rows.length) (.sl r sz rows) := by
          have e0 : (if rows.length = 0 then A else A.map (·.add (0 * ie.size))) = A := by
            split
            · rfl
            · cases A <;> simp [Addr.add]
          rw [e0]
          cases hd with
          | sl0 => exact .sl0 _ _ _ _
          | sl _ _ b o _ _ _ cs e fz vs hr hh hm hc hsz hcell hrep => exact .sl _ _ b o _ _ _ cs e fz vs hr hh rfl (Nat.le_refl _) hsz (fun j i hj hi => hcell j i (by omega) hi) hrep
        refine OK1.same hI ?_ hk2 (.c _ _ (.full _ _ _ _ _ rfl hd2))
        have c1 : ((rows.length : Nat) : Int) ≤ (c : Int) := by omega
        have c2 : ¬ (c < rows.length) := by omega
        simp [Instr.sliceAt, run_underlying h2, Instr.slice, Instr.sliceBounds, Instr.sliceBound, asIntOf, c1, c2, sizeOf, typeInfo, k1]
      · exact hk.elim
    · rename_i e h m hik
      rw [hik] at h3
      have := kind_sl h3
      subst this
      cases lo <;> cases hi <;> cases mx <;> first | (exact hl.elim) | (exact hh.elim) | (exact hm.elim) | skip
      split at hk
      · rename_i j hj
        obtain ⟨ie, _, ze, k1, k2, k3, k4, _⟩ := ti_parts (HT.ti e j hj)
        obtain ⟨k, a, rfl, hk⟩ := intV_of hh hk
        obtain ⟨k', b, rfl, ⟨b1, b2⟩, hk2⟩ := intV_of hm hk
        subst b1; subst b2
        have hd := repA_d (c_of hx)
        cases hd
        refine OK1.same hI ?_ hk2 (.c _ _ (.emp none))
        simp [Instr.sliceAt, run_underlying h2, Instr.slice, Instr.sliceBounds, Instr.sliceBound, asIntOf, sizeOf, typeInfo, k1]
      · exact hk.elim
    · rename_i e r sz rows l hik
      rw [hik] at h3
      have := kind_sl h3
      subst this
      cases lo <;> cases hi <;> cases mx <;> first | (exact hl.elim) | (exact hh.elim) | (exact hm.elim) | skip
      split at hk
      · rename_i j hj
        obtain ⟨ie, _, ze, k1, k2, k3, k4, _⟩ := ti_parts (HT.ti e j hj)
        cases hn : natEq j.sz sz with
        | false => rw [hn] at hk; exact hk.elim
        | true =>
        rw [hn] at hk
        have hsz := natEq_eq hn
        obtain ⟨k, a, rfl, ⟨b1, b2⟩, hk⟩ := intV_of hl hk
        have hd := repA_d (c_of hx)
        obtain ⟨A, m', c, rfl⟩ : ∃ A m c, u = .slice A m c := by cases hd <;> exact ⟨_, _, _, rfl⟩
        obtain ⟨t1, t2, t3⟩ := sl_drop hd (a := a.toNat) (by omega)
        refine OK1.same hI ?_ hk (.c _ _ (.d _ _ t3))
        have c1 : a ≤ (m' : Int) := by omega
        simp [Instr.sliceAt, run_underlying h2, Instr.slice, Instr.sliceBounds, Instr.sliceBound, asIntOf, b1, c1, sizeOf, typeInfo, k1, k4, hsz]
      · exact hk.elim
    · rename_i e r sz rows h hik
      rw [hik] at h3
      have := kind_sl h3
      subst this
      cases lo <;> cases hi <;> cases mx <;> first | (exact hl.elim) | (exact hh.elim) | (exact hm.elim) | skip
      split at hk
      · rename_i j hj
        obtain ⟨ie, _, ze, k1, k2, k3, k4, _⟩ := ti_parts (HT.ti e j hj)
        obtain ⟨k, a, rfl, ⟨b1, b2⟩, hk⟩ := intV_of hh hk
        have hd := repA_d (c_of hx)
        obtain ⟨A, m', c, rfl⟩ : ∃ A m c, u = .slice A m c := by cases hd <;> exact ⟨_, _, _, rfl⟩
        obtain ⟨t1, t2, t3⟩ := sl_take hd (a := a.toNat) (by omega)
        have hd2 : RepD w C.rg (.slice (if c = 0 then A else A.map (·.add (0 * ie.size))) a.toNat c) (.sl r sz (rows.take a.toNat)) := by
          have e0 : (if c = 0 then A else A.map (·.add (0 * ie.size))) = A := by
            split
            · rfl
            · cases A <;> simp [Addr.add]
          rw [e0]; exact t3
        refine OK1.same hI ?_ hk (.c _ _ (.d _ _ hd2))
        have c1 : a ≤ (c : Int) := by omega
        simp [Instr.sliceAt, run_underlying h2, Instr.slice, Instr.sliceBounds, Instr.sliceBound, asIntOf, b1, c1, sizeOf, typeInfo, k1]
      · exact hk.elim
    · exact hk.elim
  · exact hk.elim

end
end Go.Proofs.Ytdhkopangbgehaa.E
