/- The engine, part 11: made slices, appends. No conditions. -/
import Derived.Test.YtdhkopangbgehaaEng10
set_option linter.unusedVariables false
set_option linter.unusedSimpArgs false
namespace Go.Proofs.Ytdhkopangbgehaa.E
open Go

section
variable {P : Program} {T : Tab} (HT : TabOk P T)

/-- Cells in a row that lie at an address and read as these rows. -/
structure Src (w : World) (rg : Nat → Option Nat) (a : Addr) (m sz : Nat) (rows : List (List DV)) (vals : List Value) : Prop where
  len : vals.length = m * sz
  mlen : m = rows.length
  at_ : ∀ (j : Nat) u, vals[j]? = some u → w.cell? (a.add j) = some u
  one : ∀ u, u ∈ vals → u.oneCell' = true
  wid : ∀ row, row ∈ rows → row.length = sz
  rep : ∀ (j i : Nat) row y, rows[j]? = some row → row[i]? = some y → ∃ v, vals[j * sz + i]? = some v ∧ RepD w rg v y

theorem src_sl {w : World} {rg : Nat → Option Nat} {A : Option Addr} {m c r sz : Nat} {rows : List (List DV)} (hz : 0 < sz) (h : RepD w rg (.slice A m c) (.sl r sz rows)) (hne : rows ≠ []) :
    ∃ a vals, A = some a ∧ Src w rg a m sz rows vals := by
  cases h with
  | sl0 => exact absurd rfl hne
  | sl _ _ b o _ _ _ cs e fz vs hr hh hm hc hsz hcell hrep =>
    let vals : List Value := (List.range (m * sz)).map fun k => vs (k / sz) (k % sz)
    have hv : ∀ (j : Nat) u, vals[j]? = some u → j < m * sz ∧ u = vs (j / sz) (j % sz) := fun j u hu => by
      simp only [vals, List.getElem?_map] at hu
      by_cases hj : j < m * sz
      · rw [List.getElem?_range hj] at hu
        simp at hu
        exact ⟨hj, hu.symm⟩
      · rw [List.getElem?_eq_none (by simpa using hj)] at hu; cases hu
    have hdiv : ∀ j, j < m * sz → j / sz < m ∧ j % sz < sz := fun j hj => ⟨Nat.div_lt_of_lt_mul (by rw [Nat.mul_comm]; exact hj), Nat.mod_lt _ hz⟩
    have hcellj : ∀ j, j < m * sz → cs[o + j]? = some (vs (j / sz) (j % sz)) := fun j hj => by
      have := hcell (j / sz) (j % sz) (hdiv j hj).1 (hdiv j hj).2
      rw [Nat.add_assoc, Nat.div_add_mod' j sz] at this
      exact this
    have hrepj : ∀ j, j < m * sz → ∃ y, RepD w rg (vs (j / sz) (j % sz)) y := fun j hj => by
      obtain ⟨d1, d2⟩ := hdiv j hj
      have h1 : rows[j / sz]? = some (rows[j / sz]'(by omega)) := List.getElem?_eq_getElem _
      have h2 := hsz _ (List.mem_of_getElem? h1)
      exact ⟨_, hrep _ _ _ _ h1 (List.getElem?_eq_getElem (by omega))⟩
    refine ⟨⟨b, o, none⟩, vals, rfl, by simp [vals], hm, fun j u hu => ?_, fun u hu => ?_, hsz, fun j i row y hj hi => ?_⟩
    · obtain ⟨h1, h2⟩ := hv j u hu
      rw [addr_add]
      simp [World.cell?, hh, hcellj j h1, h2]
    · obtain ⟨j, hj⟩ := List.getElem?_of_mem hu
      obtain ⟨h1, h2⟩ := hv j u hj
      obtain ⟨y, hy⟩ := hrepj j h1
      rw [h2]; exact hy.oneCell
    · have hjl := (List.getElem?_eq_some_iff.1 hj).1
      have hil := (List.getElem?_eq_some_iff.1 hi).1
      have hrl := hsz row (List.mem_of_getElem? hj)
      have hlt : j * sz + i < m * sz := by
        have : j * sz + sz ≤ m * sz := by rw [← Nat.succ_mul]; exact Nat.mul_le_mul_right _ (by omega)
        omega
      have e1 : (j * sz + i) / sz = j := by rw [Nat.mul_comm, Nat.mul_add_div hz, Nat.div_eq_of_lt (by omega)]; rfl
      have e2 : (j * sz + i) % sz = i := by rw [Nat.mul_comm, Nat.mul_add_mod, Nat.mod_eq_of_lt (by omega)]
      refine ⟨vs j i, ?_, hrep j i row y hj hi⟩
      simp only [vals, List.getElem?_map]
      rw [List.getElem?_range hlt]
      simp [e1, e2]

theorem src_own {w : World} {C : Cz} {σ : List AObj} (hI : Inv w C σ) {o e sz : Nat} {rows : List (List DV)} (ho : σ[o]? = some (.row e sz rows)) {A : Option Addr} {m c : Nat} (hv : RepA w C (.slice A m c) (.own o rows.length)) (hne : rows ≠ []) :
    ∃ a vals, A = some a ∧ Src w C.rg a m sz rows vals := by
  cases hv with
  | own _ _ en he hr hn A c hval =>
  obtain ⟨g1, g2, g3, g4, g5, xs, g6, g7⟩ := hI.ok o _ en ho he
  have hval := hval g2.symm
  rcases g6.2 with ⟨h1, h2⟩ | ⟨g, cap, cur, h1, _, h3, h4, h5, h6, h7⟩
  · exact absurd (List.eq_nil_of_length_eq_zero h2) hne
  · rw [h1] at hval
    cases hval
    have hxs : ∀ (j : Nat) u, xs[j]? = some u → w.cell? ((⟨g, 0, none⟩ : Addr).add j) = some u := g6.cells (g := g) (by rw [h1]; rfl)
    have hall : ∀ (k : Nat) u, xs[k]? = some u → ∃ y, RepD w C.rg u y := fun k u hu => by
      have hk : k < rows.length * sz := by rw [← g6.1]; exact (List.getElem?_eq_some_iff.1 hu).1
      have d1 : k / sz < rows.length := Nat.div_lt_of_lt_mul (by rw [Nat.mul_comm]; exact hk)
      have d2 : k % sz < sz := Nat.mod_lt _ g4
      have r1 : rows[k / sz]? = some rows[k / sz] := List.getElem?_eq_getElem d1
      have r2 := g5 _ (List.mem_of_getElem? r1)
      obtain ⟨v, hv, hr⟩ := g7 (k / sz) (k % sz) _ _ r1 (List.getElem?_eq_getElem (by omega))
      rw [Nat.div_add_mod' k sz, hu] at hv
      cases hv
      exact ⟨_, hr⟩
    refine ⟨⟨g, 0, none⟩, xs, rfl, g6.1, rfl, hxs, fun u hu => ?_, g5, g7⟩
    obtain ⟨k, hk⟩ := List.getElem?_of_mem hu
    obtain ⟨y, hy⟩ := hall k u hk
    exact hy.oneCell

/-- What is appended: no rows, or a source. -/
def IsSrc (w : World) (C : Cz) (u : Value) (sz : Nat) (rows : List (List DV)) : Prop :=
  (rows = [] ∧ ∃ A c, u = .slice A 0 c) ∨ (rows ≠ [] ∧ ∃ a m c vals, u = .slice (some a) m c ∧ Src w C.rg a m sz rows vals)

def srcRows (σ : List AObj) (sz : Nat) (x : Val) (K : List (List DV) → Prop) : Prop :=
  match x with
  | .c (.d (.sl r s rows)) => bif natEq s sz then K rows else False
  | .c (.full r s rows) => bif natEq s sz then K rows else False
  | .c (.d .nils) => K []
  | .c .emp => K []
  | .c (.own o n) => match σ[o]? with
    | some (.row e s rows) => bif natEq s sz then (n = rows.length ∧ K rows) else False
    | _ => False
  | _ => False

theorem srcRows_ok {w : World} {C : Cz} {σ : List AObj} (hI : Inv w C σ) {u : Value} {x : Val} (hx : RepV w C u x) {sz : Nat} (hz : 0 < sz) {K : List (List DV) → Prop} (hk : srcRows σ sz x K) : ∃ rows, K rows ∧ IsSrc w C u sz rows := by
  unfold srcRows at hk
  split at hk
  · rename_i r s rows
    cases hn : natEq s sz with
    | false => rw [hn] at hk; exact hk.elim
    | true =>
    rw [hn] at hk
    have := natEq_eq hn
    subst this
    have hd := repA_d (c_of hx)
    by_cases hne : rows = []
    · subst hne
      refine ⟨_, hk, .inl ⟨rfl, ?_⟩⟩
      cases hd with
      | sl0 => exact ⟨_, _, rfl⟩
      | sl _ _ b o n c _ cs e fz vs hr hh hm hc hsz hcell hrep =>
        simp at hm; subst hm; exact ⟨_, _, rfl⟩
    · obtain ⟨A, m, c, rfl⟩ : ∃ A m c, u = .slice A m c := by cases hd <;> exact ⟨_, _, _, rfl⟩
      obtain ⟨a, vals, rfl, hs⟩ := src_sl hz hd hne
      exact ⟨_, hk, .inr ⟨hne, a, m, c, vals, rfl, hs⟩⟩
  · rename_i r s rows
    cases hn : natEq s sz with
    | false => rw [hn] at hk; exact hk.elim
    | true =>
    rw [hn] at hk
    have := natEq_eq hn
    subst this
    have hd := c_of hx
    cases hd with
    | full A n _ _ _ hml hd =>
    by_cases hne : rows = []
    · subst hne
      simp at hml; subst hml
      exact ⟨_, hk, .inl ⟨rfl, _, _, rfl⟩⟩
    · obtain ⟨a, vals, rfl, hs⟩ := src_sl hz hd hne
      exact ⟨_, hk, .inr ⟨hne, a, n, n, vals, rfl, hs⟩⟩
  · have hd := repA_d (c_of hx)
    cases hd
    exact ⟨_, hk, .inl ⟨rfl, _, _, rfl⟩⟩
  · have hd := c_of hx
    cases hd
    exact ⟨_, hk, .inl ⟨rfl, _, _, rfl⟩⟩
  · split at hk
    · rename_i o n e s rows ho
      cases hn : natEq s sz with
      | false => rw [hn] at hk; exact hk.elim
      | true =>
      rw [hn] at hk
      have := natEq_eq hn
      subst this
      obtain ⟨hn, hk⟩ := hk
      subst hn
      have hd := c_of hx
      by_cases hne : rows = []
      · subst hne
        refine ⟨_, hk, .inl ⟨rfl, ?_⟩⟩
        cases hd with
        | own _ _ en he hr hn A c hval => exact ⟨A, c, rfl⟩
      · obtain ⟨A, m, c, rfl⟩ : ∃ A m c, u = .slice A m c := by cases hd; exact ⟨_, _, _, rfl⟩
        obtain ⟨a, vals, rfl, hs⟩ := src_own hI ho hd hne
        exact ⟨_, hk, .inr ⟨hne, a, m, c, vals, rfl, hs⟩⟩
    · exact hk.elim
  · exact hk.elim

/-- Nothing is appended. -/
theorem run_append_zero {t ty e : Nat} {i : TypeInfo} (ht : P.underlying t = some (.slice e)) (hi : P.info? e = some i) (w : World) (A : Option Addr) (n c : Nat) (hc : n ≤ c) (B : Option Addr) (c' : Nat) :
    (Builtin.append_ #[t, t] ty #[.slice A n c, .slice B 0 c']).run P w = .ok (.slice A n c) w := by
  cases A <;> cases B <;> simp [Builtin.append_, run_underlying ht, sizeOf, typeInfo, hi, Builtin.lenOf, Builtin.firstCells, loadCells, loadCellsFrom, hc, storeCells]

def bnd (n bytes : Nat) : Prop := n * bytes ≤ 140737488355328 ∧ n ≤ 4611686018427387904

def aAppend (T : Tab) (σ : List AObj) (t : Nat) (s x : Val) (K : Val → List AObj → Prop) : Prop :=
  match T.ti t with
  | some i => match i.k with
    | .sl e => match T.ti e with
      | some j => bif natEq j.sz 0 then False else srcRows σ j.sz x fun news => match s with
        | .c (.d .nils) => bnd news.length j.bytes ∧ K (.c (.own σ.length news.length)) (σ ++ [.row e j.sz news])
        | .c .emp => match news with
          | [] => K (.c .emp) σ
          | _ :: _ => bnd news.length j.bytes ∧ K (.c (.own σ.length news.length)) (σ ++ [.row e j.sz news])
        | .c (.full r sz rows) => bif natEq sz j.sz then (match news with
          | [] => K (.c (.full r sz rows)) σ
          | _ :: _ => bnd (rows.length + news.length) j.bytes ∧ K (.c (.own σ.length (rows.length + news.length))) (σ ++ [.row e j.sz (rows ++ news)])) else False
        | .c (.own o n) => match σ[o]? with
          | some (.row e' sz rows) => bif natEq e' e && natEq sz j.sz then ((n = rows.length ∧ bnd (rows.length + news.length) j.bytes) ∧ K (.c (.own o (rows.length + news.length))) (σ.set o (.row e j.sz (rows ++ news)))) else False
          | _ => False
        | _ => False
      | none => False
    | _ => False
  | none => False

theorem rows_app {w : World} {rg : Nat → Option Nat} {sz : Nat} {rows news : List (List DV)} {xs vals : List Value} (hx : xs.length = rows.length * sz)
    (h1 : ∀ (j i : Nat) row y, rows[j]? = some row → row[i]? = some y → ∃ v, xs[j * sz + i]? = some v ∧ RepD w rg v y) (hs1 : ∀ row, row ∈ rows → row.length = sz)
    (h2 : ∀ (j i : Nat) row y, news[j]? = some row → row[i]? = some y → ∃ v, vals[j * sz + i]? = some v ∧ RepD w rg v y) :
    ∀ (j i : Nat) row y, (rows ++ news)[j]? = some row → row[i]? = some y → ∃ v, (xs ++ vals)[j * sz + i]? = some v ∧ RepD w rg v y := by
  intro j i row y hj hi
  by_cases hlt : j < rows.length
  · rw [List.getElem?_append_left hlt] at hj
    obtain ⟨v, hv, hr⟩ := h1 j i row y hj hi
    exact ⟨v, by rw [List.getElem?_append_left (List.getElem?_eq_some_iff.1 hv).1]; exact hv, hr⟩
  · rw [List.getElem?_append_right (by omega)] at hj
    obtain ⟨v, hv, hr⟩ := h2 _ i row y hj hi
    refine ⟨v, ?_, hr⟩
    have e : j * sz + i = xs.length + ((j - rows.length) * sz + i) := by
      rw [hx, ← Nat.add_assoc, ← Nat.add_mul]
      congr 2
      omega
    rw [e, List.getElem?_append_right (by omega)]
    simpa using hv

/-- A new row out of cells that are known. -/
theorem new_row {w w' : World} {C : Cz} {σ : List AObj} (hI : Inv w C σ) {e sz n cap : Nat} (hz : 0 < sz) {xs : List Value} {z : Array Value} {rows : List (List DV)} (hzs : z.size = sz) (hxl : xs.length = rows.length * sz) (hn : n = rows.length) (hcap : n ≤ cap) (hm : cap ≤ maxLen)
    (hsz : ∀ row, row ∈ rows → row.length = sz) (hrep : ∀ (j i : Nat) row y, rows[j]? = some row → row[i]? = some y → ∃ v, xs[j * sz + i]? = some v ∧ RepD w C.rg v y)
    (hw : w' = w.drew.alloc (.cells (xs.toArray ++ Builtin.zeroCells z (cap - n)) e)) :
    ∃ C', Inv w' C' (σ ++ [.row e sz rows]) ∧ Ext w C σ w' C' (σ ++ [.row e sz rows]) ∧ RepA w' C' (.slice (some ⟨w.heap.size, 0, none⟩) n cap) (.own σ.length rows.length) := by
  subst hw
  subst hn
  have hszw : w.heap.size ≤ (w.drew.alloc (.cells (xs.toArray ++ Builtin.zeroCells z (cap - rows.length)) e)).heap.size := by simp
  have hold : ∀ b, b < w.heap.size → (w.drew.alloc (.cells (xs.toArray ++ Builtin.zeroCells z (cap - rows.length)) e)).heap[b]? = w.heap[b]? := fun b hb => alloc_old w.drew _ hb
  let en : Ent := ⟨true, some w.heap.size, rows.length, .slice (some ⟨w.heap.size, 0, none⟩) rows.length cap⟩
  have hle : CzLe w C (w.drew.alloc (.cells (xs.toArray ++ Builtin.zeroCells z (cap - rows.length)) e)) (C.add en) := CzLe.add _ (fun b r hb => hold b (hI.rgs b r hb))
  refine ⟨C.add en, hI.addNew hszw hold (fun b hb => by cases hb; simp) ⟨rfl, rfl, rfl, hz, hsz, xs, ⟨hxl, .inr ⟨w.heap.size, cap, _, (by simp [en]), Nat.zero_le _, alloc_new w.drew _, by omega, hm, ?_, ?_⟩⟩, fun j i row y hj hi => ?_⟩,
    Ext.addNew hI rfl rfl rfl hszw hold (fun b hb => by cases hb; exact Nat.le_refl _), ?_⟩
  · simp only [Array.size_append, List.size_toArray, size_zeroCells, hzs, hxl]
    rw [← Nat.add_mul]; congr 1; omega
  · simp only [Array.toList_append]
    rw [← hxl]
    exact List.take_left
  · obtain ⟨v, hv, hr⟩ := hrep j i row y hj hi
    exact ⟨v, hv, hr.mono hle.rg⟩
  · have := RepA.own (w := w.drew.alloc (.cells (xs.toArray ++ Builtin.zeroCells z (cap - rows.length)) e)) (C := C.add en) σ.length rows.length en (by simp [Cz.add, ← hI.len]) rfl (Nat.le_refl _) (some ⟨w.heap.size, 0, none⟩) cap (fun _ => by simp [en])
    exact this

theorem nil_row {w : World} {C : Cz} {σ : List AObj} (hI : Inv w C σ) {e sz : Nat} (hz : 0 < sz) :
    ∃ C', Inv w C' (σ ++ [.row e sz []]) ∧ Ext w C σ w C' (σ ++ [.row e sz []]) ∧ RepA w C' (.slice none 0 0) (.own σ.length 0) ∧ CzLe w C w C' := by
  let en : Ent := ⟨true, none, 0, .slice none 0 0⟩
  refine ⟨C.add en, hI.addNew (Nat.le_refl _) (fun _ _ => rfl) (fun b hb => by cases hb) ⟨rfl, rfl, rfl, hz, fun row h => by simp at h, [], ⟨by simp, .inl ⟨rfl, rfl⟩⟩, fun j i row x h => by simp at h⟩,
    Ext.addNew hI rfl rfl rfl (Nat.le_refl _) (fun _ _ => rfl) (fun b hb => by cases hb), .own σ.length 0 en (by simp [Cz.add, ← hI.len]) rfl (Nat.le_refl _) none 0 (fun _ => rfl), CzLe.add _ (fun _ _ _ => rfl)⟩

theorem own_inv {w : World} {C : Cz} {v : Value} {o n : Nat} (h : RepA w C v (.own o n)) : ∃ e A c, C.θ[o]? = some e ∧ e.row = true ∧ n ≤ e.len ∧ v = .slice A n c ∧ (n = e.len → .slice A n c = e.val) := by
  cases h with
  | own _ _ e he hr hn A c hv => exact ⟨e, A, c, he, hr, hn, rfl, hv⟩

theorem append_own {w : World} {C : Cz} {σ : List AObj} (hI : Inv w C σ) {t ty e o sz bytes : Nat} {ie : TypeInfo} {ze : Value} (h2 : P.underlying t = some (.slice e)) (k1 : P.info? e = some ie) (k8 : ie.zero = some ze)
    (k4 : ie.size = sz) (k6 : ie.bytes = bytes) (k10 : ze.cells.size = sz) {rows news : List (List DV)} (ho : σ[o]? = some (.row e sz rows)) {A : Option Addr} {c : Nat} {v : Value} (hd : RepA w C (.slice A rows.length c) (.own o rows.length))
    (hsrc : IsSrc w C v sz news) (b1 : (rows.length + news.length) * bytes ≤ 140737488355328) (b2 : rows.length + news.length ≤ 4611686018427387904) :
    ∃ u' w' C', (Builtin.append_ #[t, t] ty #[.slice A rows.length c, v]).run P w = .ok u' w' ∧ Inv w' C' (σ.set o (.row e sz (rows ++ news))) ∧ Ext w C σ w' C' (σ.set o (.row e sz (rows ++ news))) ∧
      RepA w' C' u' (.own o (rows.length + news.length)) := by
  have hml : ∀ n, n ≤ 4611686018427387904 → n ≤ maxLen := fun n hn => by simp only [maxLen]; omega
  obtain ⟨en, A2, c2, he, hr, hle, hAc, hval⟩ := own_inv hd
  cases hAc
  obtain ⟨g1, g2, g3, g4, g5, xs, g6, g7⟩ := hI.ok o _ en ho he
  have hval := hval g2.symm
  have fin : ∀ (u' : Value) (w' : World) (vals : List Value) (A' : Option Addr) (c' : Nat), u' = .slice A' (rows.length + news.length) c' →
      (Builtin.append_ #[t, t] ty #[.slice A rows.length c, v]).run P w = .ok u' w' → w'.ownsRow 0 e sz u' (rows.length + news.length) (xs ++ vals) → w'.os = w.os → w'.tape = w.tape → w'.output = w.output → w.heap.size ≤ w'.heap.size →
      (∀ b, b < w.heap.size → en.b ≠ some b → w'.heap[b]? = w.heap[b]?) → (∀ b, u'.ownBlock = some b → en.b = some b ∨ (w.heap.size ≤ b ∧ b < w'.heap.size)) →
      (∀ row, row ∈ news → row.length = sz) → (∀ (a i : Nat) row y, news[a]? = some row → row[i]? = some y → ∃ v, vals[a * sz + i]? = some v ∧ RepD w C.rg v y) → 0 < news.length →
      ∃ u' w' C', (Builtin.append_ #[t, t] ty #[.slice A rows.length c, v]).run P w = .ok u' w' ∧ Inv w' C' (σ.set o (.row e sz (rows ++ news))) ∧ Ext w C σ w' C' (σ.set o (.row e sz (rows ++ news))) ∧
        RepA w' C' u' (.own o (rows.length + news.length)) := by
    intro u' w' vals A' c' hu' hrun hown hos htp hout hszw hold hnew hnsz hnrep hnpos
    let e2 : Ent := ⟨true, u'.ownBlock, rows.length + news.length, u'⟩
    obtain ⟨v1, v2⟩ := hI.upd (o' := .row e sz (rows ++ news)) (e' := e2) ho he rfl hszw (.inr ⟨hr, rfl, by show en.len < _; rw [g2]; show rows.length < rows.length + news.length; omega⟩) hold hnew (fun hc => by
      refine ⟨rfl, by simp [e2], rfl, g4, fun row hrow => ?_, xs ++ vals, by simpa using hown, fun a i row y ha hi => ?_⟩
      · rcases List.mem_append.1 hrow with h | h
        · exact g5 row h
        · exact hnsz row h
      · obtain ⟨v, hv, hrv⟩ := rows_app (rg := C.rg) g6.1 g7 g5 hnrep a i row y ha hi
        exact ⟨v, hv, hrv.mono hc.rg⟩)
    refine ⟨u', w', _, hrun, v2, Ext.upd hI ho he rfl hos htp hout hszw v1 hold (fun b hb => (hnew b hb).imp id And.left), ?_⟩
    subst hu'
    exact .own o _ e2 (by simp [Cz.upd, List.getElem?_set, (List.getElem?_eq_some_iff.1 he).1]) rfl (Nat.le_refl _) A' c' (fun _ => rfl)
  rcases hsrc with ⟨rfl, B, c', rfl⟩ | ⟨hne, a, m, c', vals, rfl, hS⟩
  · have hcn : rows.length ≤ c := by
      rcases g6.2 with ⟨h1, h2⟩ | ⟨g, cap, cur, h1, _, h3, h4, h5, h6, h7⟩
      · omega
      · rw [h1] at hval; cases hval; exact h4
    have e0 : σ.set o (.row e sz (rows ++ [])) = σ := by
      rw [List.append_nil]
      exact List.ext_getElem? fun k => by
        rw [List.getElem?_set]
        split
        · subst_vars
          rw [ho]
          simp [(List.getElem?_eq_some_iff.1 ho).1]
        · rfl
    rw [e0]
    exact ⟨_, w, C, run_append_zero h2 k1 w A rows.length c hcn B c', hI, .refl w C σ, .own o _ en he hr hle A c (fun _ => hval)⟩
  · have hm := hS.mlen
    have hmp : 0 < m := by
      rcases Nat.eq_zero_or_pos m with h0 | h0
      · rw [h0] at hm; exact absurd (List.eq_nil_of_length_eq_zero hm.symm) hne
      · exact h0
    have hnp : 0 < news.length := by omega
    rcases g6.2 with ⟨q1, q2⟩ | ⟨g, cap, cur, q1, _, q3, q4, q5, q6, q7⟩
    · have hre : rows = [] := List.eq_nil_of_length_eq_zero q2
      subst hre
      rw [q1] at hval
      have hval2 := hval
      simp only [List.length_nil, Value.slice.injEq, true_and] at hval2
      obtain ⟨rfl, rfl⟩ := hval2
      have hxs : xs = [] := List.eq_nil_of_length_eq_zero (by have := g6.1; simpa using this)
      subst hxs
      have hrun := run_append_nil (P := P) w t ty e ie ze h2 k1 k8 a m c' vals (by rw [k4]; exact hS.len) hS.at_ hmp (by simp at b2; omega) (by rw [k6]; simp only [List.length_nil, Nat.zero_add] at b1; rw [hm]; omega)
      have hge := grownCap_ge w m 0 e
      have hcm := grownCap_le_maxLen w m 0 e (hml _ (by simp at b2; omega))
      refine fin _ _ vals (some ⟨w.heap.size, 0, none⟩) (grownCap w m 0 e) (by simp [hm]) hrun ⟨by simp [hS.len, hm], .inr ⟨w.heap.size, _, _, (by simp [hm]), Nat.zero_le _, alloc_new w.drew _, by simp; omega, hcm, ?_, ?_⟩⟩ rfl rfl rfl (by simp) (fun b hb _ => alloc_old w.drew _ hb) (fun b hb => ?_) hS.wid hS.rep hnp
      · simp only [Array.size_append, List.size_toArray, size_zeroCells, k10, hS.len]
        rw [← Nat.add_mul]; congr 1; omega
      · simp only [Array.toList_append, List.nil_append, List.length_nil, Nat.zero_add]
        rw [← hm, ← hS.len]
        exact List.take_left
      · simp [Value.ownBlock] at hb
        exact .inr ⟨by omega, by simp; omega⟩
    · rw [q1] at hval
      cases hval
      by_cases hroom : rows.length + m ≤ c
      · have hfit : rows.length * ie.size + vals.length ≤ cur.size := by rw [hS.len, q6, k4, ← Nat.add_mul]; exact Nat.mul_le_mul_right _ hroom
        have hrun := run_append_room (P := P) w t ty e ie h2 k1 g rows.length c cur q3 a m c' vals (by rw [k4]; exact hS.len) hS.at_ hS.one hroom hfit
        refine fin _ _ vals (some ⟨g, 0, none⟩) c (by rw [hm]) hrun ⟨by rw [List.length_append, g6.1, hS.len, hm, Nat.add_mul], .inr ⟨g, c, _, (by rw [hm]), Nat.zero_le _, setRow_heap w g cur _ e _ q3, by rw [← hm]; exact hroom, q5, ?_, ?_⟩⟩ rfl rfl rfl (by simp [World.setRow]) (fun b _ hb => setRow_other w g b _ (fun e1 => hb (by rw [g3, q1, e1]; rfl))) (fun b hb => ?_) hS.wid hS.rep hnp
        · rw [k4] at hfit ⊢
          simp only [List.size_toArray, List.length_append, List.length_take, List.length_drop, Array.length_toList]
          omega
        · have : xs.length + vals.length = (rows.length + news.length) * sz := by rw [g6.1, hS.len, hm, Nat.add_mul]
          rw [k4, q7, ← this, ← List.length_append]
          exact List.take_left
        · left; rw [g3, q1]; exact hb
      · have holds : ∀ (k : Nat) u, xs[k]? = some u → w.cell? ((⟨g, 0, none⟩ : Addr).add k) = some u := g6.cells (g := g) (by rw [q1]; rfl)
        have hrun := run_append_grow (P := P) w t ty e ie ze h2 k1 k8 ⟨g, 0, none⟩ rows.length c xs (by rw [k4]; exact g6.1) holds a m c' vals (by rw [k4]; exact hS.len) hS.at_ (by omega) (by omega) (growslice_fits (by omega) (by rw [k6, hm]; exact b1))
        have hge := grownCap_ge w (rows.length + m) c e
        have hcm := grownCap_le_maxLen w (rows.length + m) c e (hml _ (by omega))
        refine fin _ _ vals (some ⟨w.heap.size, 0, none⟩) (grownCap w (rows.length + m) c e) (by rw [hm]) hrun ⟨by rw [List.length_append, g6.1, hS.len, hm, Nat.add_mul], .inr ⟨w.heap.size, _, _, (by rw [hm]), Nat.zero_le _, alloc_new w.drew _, by rw [← hm]; exact hge, hcm, ?_, ?_⟩⟩ rfl rfl rfl (by simp) (fun b hb _ => alloc_old w.drew _ hb) (fun b hb => ?_) hS.wid hS.rep hnp
        · simp only [Array.size_append, List.size_toArray, size_zeroCells, k10, hS.len, g6.1]
          rw [← Nat.add_mul, ← Nat.add_mul]; congr 1; omega
        · have : xs.length + vals.length = (rows.length + news.length) * sz := by rw [g6.1, hS.len, hm, Nat.add_mul]
          simp only [Array.toList_append]
          rw [← this, ← List.length_append]
          exact List.take_left
        · simp [Value.ownBlock] at hb
          exact .inr ⟨by omega, by simp; omega⟩

include HT in
theorem ok_append {w : World} {C : Cz} {σ : List AObj} (hI : Inv w C σ) {t ty : Nat} {u v : Value} {s x : Val} (hs : RepV w C u s) (hx : RepV w C v x) {K : Val → List AObj → Prop} (hk : aAppend T σ t s x K) :
    OK1 P (Builtin.append_ #[t, t] ty #[u, v]) w C σ K := by
  unfold aAppend at hk
  split at hk
  · rename_i i hti
    obtain ⟨_, d, _, h1, h2, h3, _⟩ := ti_parts (HT.ti t i hti)
    split at hk
    · rename_i e hik
      rw [hik] at h3
      have := kind_sl h3
      subst this
      split at hk
      · rename_i j hj
        obtain ⟨ie, _, ze, k1, k2, k3, k4, k6, k7, k8, k9, k10, k11, k12⟩ := ti_parts (HT.ti e j hj)
        cases hg : natEq j.sz 0 with
        | true => rw [hg] at hk; exact hk.elim
        | false =>
        rw [hg] at hk
        simp only [cond_false] at hk
        have hpos : 0 < j.sz := by
          rcases Nat.eq_zero_or_pos j.sz with h0 | h0
          · rw [h0] at hg; cases hg
          · exact h0
        obtain ⟨news, hk, hsrc⟩ := srcRows_ok hI hx hpos hk
        have hmx : (4611686018427387904 : Nat) ≤ 9223372036854775807 := by decide
        have hml : ∀ n, n ≤ 4611686018427387904 → n ≤ maxLen := fun n hn => by simp only [maxLen]; omega
        -- from nothing: a new row
        have fresh : ∀ (hk : bnd news.length j.bytes ∧ K (.c (.own σ.length news.length)) (σ ++ [.row e j.sz news])) (hu : u = .slice none 0 0), OK1 P (Builtin.append_ #[t, t] ty #[u, v]) w C σ K := by
          rintro ⟨⟨b1, b2⟩, hk⟩ rfl
          rcases hsrc with ⟨rfl, B, c', rfl⟩ | ⟨hne, a, m, c, vals, rfl, hS⟩
          · obtain ⟨C', g1, g2, g3, g4⟩ := nil_row (e := e) hI hpos
            exact ⟨_, w, C', _, _, run_append_zero h2 k1 w none 0 0 (Nat.le_refl _) B c', hk, g1, g2, .c _ _ g3⟩
          · have hm := hS.mlen
            have hmp : 0 < m := by
              rcases Nat.eq_zero_or_pos m with h0 | h0
              · rw [h0] at hm; exact absurd (List.eq_nil_of_length_eq_zero hm.symm) hne
              · exact h0
            have hr := run_append_nil (P := P) w t ty e ie ze h2 k1 k8 a m c vals (by rw [k4]; exact hS.len) hS.at_ hmp (by omega) (by rw [k6, hm]; omega)
            have hcm := grownCap_le_maxLen w m 0 e (hml _ (by omega))
            obtain ⟨C', g1, g2, g3⟩ := new_row (e := e) hI hpos k10 (by rw [hS.len, hm]) hm (grownCap_ge w m 0 e) hcm hS.wid hS.rep rfl
            exact ⟨_, _, C', _, _, hr, hk, g1, g2, .c _ _ g3⟩
        split at hk
        · have hd := repA_d (c_of hs)
          cases hd
          exact fresh hk rfl
        · have hd := c_of hs
          cases hd with
          | emp A =>
          split at hk
          · rcases hsrc with ⟨_, B, c', rfl⟩ | ⟨hne, _⟩
            · exact OK1.same hI (run_append_zero h2 k1 w A 0 0 (Nat.le_refl _) B c') hk (.c _ _ (.emp A))
            · exact absurd rfl hne
          · rename_i n1 nr
            rcases hsrc with ⟨h0, _⟩ | ⟨hne, a, m, c, vals, rfl, hS⟩
            · cases h0
            · obtain ⟨⟨b1, b2⟩, hk⟩ := hk
              have hm := hS.mlen
              have hmp : 0 < m := by rw [hm]; simp
              cases A with
              | none =>
                have hr := run_append_nil (P := P) w t ty e ie ze h2 k1 k8 a m c vals (by rw [k4]; exact hS.len) hS.at_ hmp (by omega) (by rw [k6, hm]; omega)
                have hcm := grownCap_le_maxLen w m 0 e (hml _ (by omega))
                obtain ⟨C', g1, g2, g3⟩ := new_row (e := e) hI hpos k10 (by rw [hS.len, hm]) hm (grownCap_ge w m 0 e) hcm hS.wid hS.rep rfl
                exact ⟨_, _, C', _, _, hr, hk, g1, g2, .c _ _ g3⟩
              | some ad =>
                have hr := run_append_grow (P := P) w t ty e ie ze h2 k1 k8 ad 0 0 [] (by simp) (fun j v h => by simp at h) a m c vals (by rw [k4]; exact hS.len) hS.at_ (by omega) (by omega) (growslice_fits (by omega) (by rw [k6, Nat.zero_add, hm]; exact b1))
                simp only [Nat.zero_add, show ([] : List Value).toArray = #[] from rfl, Array.empty_append] at hr
                have hcm := grownCap_le_maxLen w m 0 e (hml _ (by omega))
                obtain ⟨C', g1, g2, g3⟩ := new_row (e := e) hI hpos k10 (by rw [hS.len, hm]) hm (grownCap_ge w m 0 e) hcm hS.wid hS.rep rfl
                exact ⟨_, _, C', _, _, hr, hk, g1, g2, .c _ _ g3⟩
        · rename_i r sz rows _
          cases hq : natEq sz j.sz with
          | false => rw [hq] at hk; exact hk.elim
          | true =>
          rw [hq] at hk
          have := natEq_eq hq
          subst this
          have hd := c_of hs
          split at hk
          · cases hd with
            | full A n _ _ _ hn hd =>
            rcases hsrc with ⟨_, B, c', rfl⟩ | ⟨hne, _⟩
            · exact OK1.same hI (run_append_zero h2 k1 w A n n (Nat.le_refl _) B c') hk (.c _ _ (.full A n _ _ _ hn hd))
            · exact absurd rfl hne
          · rename_i n1 nr
            cases hd with
            | full A n _ _ _ hn hd =>
            rcases hsrc with ⟨h0, _⟩ | ⟨hne, a, m, c, vals, rfl, hS⟩
            · cases h0
            · obtain ⟨⟨b1, b2⟩, hk⟩ := hk
              have hm := hS.mlen
              have hmp : 0 < m := by rw [hm]; simp
              by_cases hre : rows = []
              · subst hre
                simp at hn; subst hn
                simp only [List.length_nil, Nat.zero_add, List.nil_append] at b1 b2 hk
                cases A with
                | none =>
                  have hr := run_append_nil (P := P) w t ty e ie ze h2 k1 k8 a m c vals (by rw [k4]; exact hS.len) hS.at_ hmp (by omega) (by rw [k6, hm]; omega)
                  have hcm := grownCap_le_maxLen w m 0 e (hml _ (by omega))
                  obtain ⟨C', g1, g2, g3⟩ := new_row (e := e) hI hpos k10 (by rw [hS.len, hm]) hm (grownCap_ge w m 0 e) hcm hS.wid hS.rep rfl
                  exact ⟨_, _, C', _, _, hr, hk, g1, g2, .c _ _ g3⟩
                | some ad =>
                  have hr := run_append_grow (P := P) w t ty e ie ze h2 k1 k8 ad 0 0 [] (by simp) (fun j v h => by simp at h) a m c vals (by rw [k4]; exact hS.len) hS.at_ (by omega) (by omega) (growslice_fits (by omega) (by rw [k6, Nat.zero_add, hm]; exact b1))
                  simp only [Nat.zero_add, show ([] : List Value).toArray = #[] from rfl, Array.empty_append] at hr
                  have hcm := grownCap_le_maxLen w m 0 e (hml _ (by omega))
                  obtain ⟨C', g1, g2, g3⟩ := new_row (e := e) hI hpos k10 (by rw [hS.len, hm]) hm (grownCap_ge w m 0 e) hcm hS.wid hS.rep rfl
                  exact ⟨_, _, C', _, _, hr, hk, g1, g2, .c _ _ g3⟩
              · obtain ⟨b, olds, rfl, ho⟩ := src_sl hpos hd hre
                have hr := run_append_grow (P := P) w t ty e ie ze h2 k1 k8 b n n olds (by rw [k4]; exact ho.len) ho.at_ a m c vals (by rw [k4]; exact hS.len) hS.at_ (by omega) (by omega) (growslice_fits (by omega) (by rw [k6, hm, ho.mlen]; exact b1))
                have hcm := grownCap_le_maxLen w (n + m) n e (hml _ (by omega))
                have hxl : (olds ++ vals).length = (rows ++ n1 :: nr).length * j.sz := by rw [List.length_append, List.length_append, ho.len, hS.len, ← ho.mlen, ← hm, Nat.add_mul]
                obtain ⟨C', g1, g2, g3⟩ := new_row (e := e) (xs := olds ++ vals) (rows := rows ++ n1 :: nr) hI hpos k10 hxl (by rw [List.length_append, ← ho.mlen, ← hm]) (grownCap_ge w (n + m) n e) hcm
                  (fun row hrow => by rcases List.mem_append.1 hrow with h | h; exact ho.wid row h; exact hS.wid row h) (rows_app (by rw [ho.len, ho.mlen]) ho.rep ho.wid hS.rep) rfl
                rw [List.length_append] at g3
                refine ⟨_, _, C', _, _, hr, hk, ?_, ?_, .c _ _ ?_⟩ <;> simpa using ‹_›
        · rename_i o n _
          split at hk
          · rename_i e' sz rows ho
            cases hq : natEq e' e && natEq sz j.sz with
            | false => rw [hq] at hk; exact hk.elim
            | true =>
            rw [hq] at hk
            simp only [Bool.and_eq_true] at hq
            have q1 := natEq_eq hq.1
            have q2 := natEq_eq hq.2
            subst q1; subst q2
            simp only [cond_true] at hk
            obtain ⟨⟨hn, b1, b2⟩, hk2⟩ := hk
            subst hn
            have hd := c_of hs
            obtain ⟨A, c, rfl⟩ : ∃ A c, u = .slice A rows.length c := by
              obtain ⟨_, A, c, _, _, _, h, _⟩ := own_inv hd
              exact ⟨A, c, h⟩
            obtain ⟨u', w', C', g1, g2, g3, g4⟩ := append_own hI h2 k1 k8 k4 k6 k10 ho hd hsrc b1 b2
            exact ⟨u', w', C', _, _, g1, hk2, g2, g3, .c _ _ g4⟩
          · exact hk.elim
        · exact hk.elim
      · exact hk.elim
    · exact hk.elim
  · exact hk.elim

end
end Go.Proofs.Ytdhkopangbgehaa.E
