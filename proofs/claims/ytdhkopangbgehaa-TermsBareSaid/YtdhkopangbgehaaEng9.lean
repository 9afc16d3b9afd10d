/- The engine, part 9: the other operations without calls: signs, conversions, interfaces, cuts, appends, lengths. No conditions. -/
import Derived.Test.YtdhkopangbgehaaEng8
set_option linter.unusedVariables false
set_option linter.unusedSimpArgs false
namespace Go.Proofs.Ytdhkopangbgehaa.E
open Go

section
variable {P : Program} {T : Tab} (HT : TabOk P T)

def aUn (op : UnOp) (x : Val) (K : Val → Prop) : Prop :=
  match op, x with
  | .neg, .c (.d (.int k n)) => K (.c (.d (.int k (k.wrap (0 - n)))))
  | .not, .c (.d (.bool b)) => K (.c (.d (.bool (!b))))
  | _, _ => False

theorem ok_un {w : World} {C : Cz} {σ : List AObj} (hI : Inv w C σ) {op : UnOp} {u : Value} {x : Val} (hx : RepV w C u x) {K : Val → List AObj → Prop} (hk : aUn op x (fun z => K z σ)) : OK1 P (Op.unary op u) w C σ K := by
  unfold aUn at hk
  split at hk
  · have := int_of hx
    subst this
    exact OK1.same hI (by simp [Op.unary, Op.intArith]) hk (.c _ _ (.d _ _ (.int _ _)))
  · have := bool_of hx
    subst this
    exact OK1.same hI (by simp [Op.unary]) hk (.c _ _ (.d _ _ (.bool _)))
  · exact hk.elim

def aConv (T : Tab) (ρ : Nat) (σ : List AObj) (src dst : Nat) (x : Val) (K : Val → List AObj → Prop) : Prop :=
  match T.ti src, T.ti dst with
  | some i, some j => match i.k, j.k, x with
    | .int _, .int k, .c (.d (.int _ n)) => K (.c (.d (.int k (k.wrap n)))) σ
    | .str, .str, .c (.d (.str s)) => K (.c (.d (.str s))) σ
    | .str, .sl e, .c (.d (.str s)) => match T.ti e with
      | some l => match l.k with
        | .int .u8 => K (.c (.d (.sl ρ 1 (s.data.toList.map fun b => [.int .u8 b.toNat])))) σ
        | _ => False
      | none => False
    | _, _, _ => False
  | _, _ => False

theorem kind_int {k : IntKind} {d : TypeDesc} (h : kindOk (.int k) d = true) : d = .int k := by
  cases d <;> first | (cases h; done) | (simp [kindOk] at h; subst h; rfl)

theorem freeze_heap (w : World) (b o : Nat) (c : Array Value) (e : TypeId) (h : w.heap[b]? = some (.cells c e (0, 0))) : ∃ fz, (w.freeze ⟨b, o, none⟩ 1).heap[b]? = some (.cells c e fz) := by
  have hlt : b < w.heap.size := (Array.getElem?_eq_some_iff.1 h).1
  have hv : w.heap[b] = .cells c e (0, 0) := (Array.getElem?_eq_some_iff.1 h).2
  refine ⟨(o, o + 1), ?_⟩
  simp only [World.freeze, Nat.one_ne_zero, if_false]
  rw [Array.getElem?_modify, if_pos rfl, h]
  rfl
theorem freeze_other (w : World) (b o k : Nat) (h : k ≠ b) : (w.freeze ⟨b, o, none⟩ 1).heap[k]? = w.heap[k]? := by
  simp [World.freeze, Array.getElem?_modify, Ne.symm h]

include HT in
theorem ok_conv {w : World} {C : Cz} {σ : List AObj} (ρ : Nat) (hI : Inv w C σ) {src dst : Nat} {u : Value} {x : Val} (hx : RepV w C u x) {K : Val → List AObj → Prop} (hk : aConv T ρ σ src dst x K) :
    OK1 P (convert src dst u) w C σ K := by
  unfold aConv at hk
  split at hk
  · rename_i i j hi hj
    obtain ⟨_, d, _, h1, h2, h3, _⟩ := ti_parts (HT.ti src i hi)
    obtain ⟨_, d', _, g1, g2, g3, _⟩ := ti_parts (HT.ti dst j hj)
    split at hk
    · rename_i _ k _ n hik hjk
      rw [hjk] at g3
      have := kind_int g3
      subst this
      rw [hik] at h3
      have := kind_int h3
      subst this
      have := int_of hx
      subst this
      exact OK1.same hI (by simp [convert, run_underlying h2, run_underlying g2, Conv.intToInt]) hk (.c _ _ (.d _ _ (.int _ _)))
    · rename_i s hik hjk
      rw [hjk] at g3
      have := kind_str g3
      subst this
      rw [hik] at h3
      have := kind_str h3
      subst this
      have := str_of hx
      subst this
      exact OK1.same hI (by simp [convert, run_underlying h2, run_underlying g2]) hk (.c _ _ (.d _ _ (.str _)))
    · rename_i e s hik hjk
      rw [hjk] at g3
      have := kind_sl g3
      subst this
      rw [hik] at h3
      have := kind_str h3
      subst this
      have := str_of hx
      subst this
      split at hk
      · rename_i l hl
        split at hk
        · rename_i hlk
          obtain ⟨_, de, _, k1, k2, k3, _⟩ := ti_parts (HT.ti e l hl)
          rw [hlk] at k3
          have := kind_int k3
          subst this
          let cap := (Question.appendCap s.size 0 e).cut (w.tape w.drawn (.appendCap s.size 0 e))
          let arr : Array Value := (s.data.map fun b => Value.int .u8 b.toNat) ++ Array.replicate (cap - s.size) (.int .u8 0)
          have hcap : s.size ≤ cap := by simp [cap, Question.cut]
          let w1 : World := w.drew.alloc (.cells arr e)
          have hnew : w1.heap[w.heap.size]? = some (.cells arr e (0, 0)) := alloc_new w.drew _
          obtain ⟨fz, hf⟩ := freeze_heap w1 w.heap.size arr.size arr e hnew
          have hsz : w.heap.size < (w1.freeze ⟨w.heap.size, arr.size, none⟩ 1).heap.size := by simp [World.freeze, w1]
          have hold : ∀ b, b < w.heap.size → (w1.freeze ⟨w.heap.size, arr.size, none⟩ 1).heap[b]? = w.heap[b]? := fun b hb => by
            rw [freeze_other _ _ _ _ (by omega)]
            exact alloc_old w.drew _ hb
          refine ⟨.slice (some ⟨w.heap.size, 0, none⟩) s.size cap, w1.freeze ⟨w.heap.size, arr.size, none⟩ 1, C.reg w.heap.size ρ, _, σ, ?_, hk, (hI.reg ρ hsz hold).2, Ext.reg hI ρ rfl rfl rfl hsz hold, .c _ _ (.d _ _ ?_)⟩
          · have hsh : w1.shape? w.heap.size = some (e, arr.size) := by simp [World.shape?, hnew]
            have hsh' : (w.drew.alloc (.cells arr e)).shape? w.heap.size = some (e, arr.size) := hsh
            simp only [convert, Sem.run_bind, run_underlying h2 w, run_underlying g2 w, Result.andThen_ok]
            simp only [run_underlying k2 w, Sem.run_bind, Result.andThen_ok, Conv.stringToBytes, run_choose]
            simp only [Question.forced, Bool.false_eq_true, if_false, Result.andThen_ok, newRow, Sem.run_bind, run_newObj, Sem.run_pure, World.alloc_eq, World.drew_eq, markStringish, run_shape, World.size_drew]
            rw [show (w.drew.alloc (Obj.cells (Array.map (fun b => Value.int IntKind.u8 ↑b.toNat) s.data ++ Array.replicate ((Question.appendCap s.size 0 e).cut (w.tape w.drawn (Question.appendCap s.size 0 e)) - s.size) (Value.int IntKind.u8 0)) e)).shape? w.heap.size = some (e, arr.size) from hsh']
            rfl
          · have hlen : (s.data.toList.map fun b => [DV.int .u8 b.toNat]).length = s.size := by simp
            refine .sl ρ 1 w.heap.size 0 s.size cap _ arr e fz (fun j i => (arr[j]?).getD undef) (by simp [Cz.reg]) hf hlen.symm hcap (fun row hrow => ?_) (fun j i hj hi => ?_) (fun j i row x hj hi => ?_)
            · obtain ⟨b, _, rfl⟩ := List.mem_map.1 hrow; rfl
            · have : i = 0 := by omega
              subst this
              have : j < arr.size := by simp [arr]; have : s.data.size = s.size := rfl; omega
              simp [Array.getElem?_eq_getElem this]
            · rw [List.getElem?_map] at hj
              cases hb : s.data.toList[j]? with
              | none => rw [hb] at hj; cases hj
              | some b =>
                rw [hb] at hj
                cases hj
                cases i with
                | succ i => simp at hi
                | zero =>
                  simp at hi; subst hi
                  rw [Array.getElem?_toList] at hb
                  have hlt : j < s.data.size := (Array.getElem?_eq_some_iff.1 hb).1
                  have : arr[j]? = some (.int .u8 b.toNat) := by
                    simp only [arr]
                    rw [Array.getElem?_append_left (by simpa using hlt)]
                    simp [hb]
                  rw [this]
                  exact .int _ _
        · exact hk.elim
      · exact hk.elim
    · exact hk.elim
  · exact hk.elim

def aExtract (x : Val) (k : Nat) (K : Val → Prop) : Prop :=
  match x with
  | .tup vs => match vs[k]? with | some y => K y | none => False
  | _ => False

theorem ok_extract {w : World} {C : Cz} {σ : List AObj} (hI : Inv w C σ) {k : Nat} {u : Value} {x : Val} (hx : RepV w C u x) {K : Val → List AObj → Prop} (hk : aExtract x k (fun z => K z σ)) : OK1 P (Instr.extract u k) w C σ K := by
  unfold aExtract at hk
  split at hk
  · split at hk
    · rename_i y hy
      cases hx with
      | tup arr vs hs h =>
        have hlt : k < arr.size := by have := (List.getElem?_eq_some_iff.1 hy).1; omega
        refine OK1.same hI (v := arr[k]) ?_ hk (h k _ y (Array.getElem?_eq_getElem hlt) hy)
        simp [Instr.extract, hlt]
    · exact hk.elim
  · exact hk.elim

/-! ### Interfaces -/
def aMkIfc (T : Tab) (t : Nat) (x : Val) (K : Val → Prop) : Prop :=
  match T.ti t with
  | some i => match i.k with
    | .ifc => False
    | .other => False
    | _ => match x with
      | .c a => K (.c (.ifc t a))
      | .agg cs => K (.c (.ifa t cs))
      | _ => False
  | none => False

include HT in
theorem ok_mkIfc {w : World} {C : Cz} {σ : List AObj} (hI : Inv w C σ) {t : Nat} {u : Value} {x : Val} (hx : RepV w C u x) {K : Val → List AObj → Prop} (hk : aMkIfc T t x (fun z => K z σ)) : OK1 P (Instr.makeInterface t u) w C σ K := by
  unfold aMkIfc at hk
  split at hk
  · rename_i i hi
    obtain ⟨_, d, _, h1, h2, h3, _⟩ := ti_parts (HT.ti t i hi)
    have hrun : i.k ≠ .ifc → i.k ≠ .other → (Instr.makeInterface t u).run P w = .ok (.iface t u) w := fun n1 n2 => by
      simp only [Instr.makeInterface, Sem.run_bind, run_underlying h2 w, Result.andThen_ok]
      cases hik : i.k <;> rw [hik] at h3 <;> cases d <;> first | (cases h3; done) | rfl | (exact absurd hik n1) | (exact absurd hik n2)
    split at hk
    · exact hk.elim
    · exact hk.elim
    · rename_i n1 n2
      split at hk
      · exact OK1.same hI (hrun n1 n2) hk (.c _ _ (.ifc t _ _ (c_of hx)))
      · cases hx with
        | agg arr cs hr =>
          refine OK1.same hI (hrun n1 n2) hk (.c _ _ (.ifa t arr _ (fun i => (arr[i]?).getD undef) (by have := hr.1; simpa using this) (fun i hi => ?_) (fun i x hx => ?_)))
          · have := hr.1
            simp at this
            rw [Array.getElem?_eq_getElem (by omega)]; rfl
          · have hl := hr.1
            simp at hl
            have hi := (List.getElem?_eq_some_iff.1 hx).1
            have e : arr[i]? = some (arr[i]'(by omega)) := Array.getElem?_eq_getElem _
            rw [e]
            exact hr.2 i _ x (by rw [Array.getElem?_toList]; exact e) hx
      · exact hk.elim
  · exact hk.elim

def zeroV (i : TI) : Val := bif i.agg then .agg (i.zero.map .d) else (match i.zero with | x :: _ => .c (.d x) | [] => .junk)

def aAssert (T : Tab) (x : Val) (t : Nat) (ok : Bool) (K : Val → Prop) : Prop :=
  match T.ti t with
  | some i => match i.k with
    | .ifc => False
    | .other => False
    | _ => bif ok then (match x with
        | .c (.ifc t' a) => bif natEq t' t then K (.tup [.c a, .c (.d (.bool true))]) else K (.tup [zeroV i, .c (.d (.bool false))])
        | .c (.ifa t' cs) => bif natEq t' t then K (.tup [.agg cs, .c (.d (.bool true))]) else K (.tup [zeroV i, .c (.d (.bool false))])
        | .c (.d (.ifc t' a)) => bif natEq t' t then K (.tup [.c (.d a), .c (.d (.bool true))]) else K (.tup [zeroV i, .c (.d (.bool false))])
        | .c (.d (.ifa t' cs)) => bif natEq t' t then K (.tup [.agg (cs.map .d), .c (.d (.bool true))]) else K (.tup [zeroV i, .c (.d (.bool false))])
        | .c (.d .nili) => K (.tup [zeroV i, .c (.d (.bool false))])
        | _ => False) else False
  | none => False

theorem tup2 {w : World} {C : Cz} {u v : Value} {x y : Val} (hx : RepV w C u x) (hy : RepV w C v y) : RepV w C (.tuple #[u, v]) (.tup [x, y]) :=
  .tup _ _ rfl fun i a b h1 h2 => by
    match i with
    | 0 => simp at h1 h2; subst h1; subst h2; exact hx
    | 1 => simp at h1 h2; subst h1; subst h2; exact hy
    | n + 2 => simp at h2

theorem zeroV_rep {w : World} {C : Cz} {i : TI} {z : Value} (h9 : allZ i.zero z.cells.toList = true) (h12 : i.agg = true ↔ ∃ arr, z = .agg arr) : RepV w C z (zeroV i) := by
  have hr := allZ_rep (w := w) (C := C) h9
  unfold zeroV
  cases ha : i.agg with
  | true =>
    obtain ⟨arr, rfl⟩ := h12.1 ha
    exact .agg arr _ hr
  | false =>
    have h1 : z.cells = #[z] := by
      cases z <;> first | rfl | (have := h12.2 ⟨_, rfl⟩; rw [ha] at this; cases this)
    rw [h1] at hr
    simp only [cond_false]
    split
    · rename_i x l hz
      rw [hz] at hr
      exact .c _ _ (hr.2 0 z _ rfl rfl)
    · exact .junk _

include HT in
theorem ok_assert {w : World} {C : Cz} {σ : List AObj} (hI : Inv w C σ) {t xt : Nat} {ok : Bool} {u : Value} {x : Val} (hx : RepV w C u x) {K : Val → List AObj → Prop} (hk : aAssert T x t ok (fun z => K z σ)) :
    OK1 P (Instr.typeAssert u xt t ok) w C σ K := by
  unfold aAssert at hk
  split at hk
  · rename_i i hi
    obtain ⟨info, d, z, h1, h2, h3, h4, h6, h7, h8, h9, h10, h11, h12⟩ := ti_parts (HT.ti t i hi)
    split at hk
    · exact hk.elim
    · exact hk.elim
    · rename_i n1 n2
      cases hok : ok with
      | false => rw [hok] at hk; exact hk.elim
      | true =>
      rw [hok] at hk
      simp only [cond_true] at hk
      have hz : RepV w C z (zeroV i) := zeroV_rep h9 h12
      have hnil : (Instr.typeAssert .nilIface xt t true).run P w = .ok (.tuple #[z, .bool false]) w := by
        simp only [Instr.typeAssert, Sem.run_bind, run_underlying h2 w, Result.andThen_ok]
        cases hik : i.k <;> rw [hik] at h3 <;> cases d <;> first | (cases h3; done) | (exact absurd hik n1) | (exact absurd hik n2) | (simp [zeroValue, typeInfo, h1, h8])
      have hif : ∀ q v, (Instr.typeAssert (.iface q v) xt t true).run P w = .ok (if q = t then .tuple #[v, .bool true] else .tuple #[z, .bool false]) w := fun q v => by
        simp only [Instr.typeAssert, Sem.run_bind, run_underlying h2 w, Result.andThen_ok]
        cases hik : i.k <;> rw [hik] at h3 <;> cases d <;> first | (cases h3; done) | (exact absurd hik n1) | (exact absurd hik n2) | (by_cases hq : q = t <;> simp [zeroValue, typeInfo, h1, h8, hq])
      have go : ∀ q v y, RepV w C v y → (bif natEq q t then K (.tup [y, .c (.d (.bool true))]) σ else K (.tup [zeroV i, .c (.d (.bool false))]) σ) → OK1 P (Instr.typeAssert (.iface q v) xt t true) w C σ K := fun q v y hy hk => by
        have hr := hif q v
        cases hq : natEq q t with
        | true =>
          rw [hq] at hk
          rw [if_pos (natEq_eq hq)] at hr
          exact OK1.same hI hr hk (tup2 hy (.c _ _ (.d _ _ (.bool _))))
        | false =>
          rw [hq] at hk
          have hne : q ≠ t := fun e => by subst e; simp [natEq] at hq
          rw [if_neg hne] at hr
          exact OK1.same hI hr hk (tup2 hz (.c _ _ (.d _ _ (.bool _))))
      split at hk
      · have h := c_of hx
        cases h with
        | ifc q v a h => exact go _ v _ (.c _ _ h) hk
      · have h := c_of hx
        cases h with
        | ifa q arr cs vs hs hcell hrep =>
          refine go _ (.agg arr) _ (.agg arr _ ⟨by simpa using hs, fun i u a h1 h2 => ?_⟩) hk
          have hi := (List.getElem?_eq_some_iff.1 h2).1
          have := hcell i hi
          rw [Array.getElem?_toList, this] at h1
          cases h1
          exact hrep i a h2
      · have h := repA_d (c_of hx)
        cases h with
        | ifc q v a h => exact go _ v _ (.c _ _ (.d _ _ h)) hk
      · have h := repA_d (c_of hx)
        cases h with
        | ifa q arr cs vs hs hcell hrep =>
          refine go _ (.agg arr) _ (.agg arr _ (RepL.ofD (by simpa using hs) fun i u a h1 h2 => ?_)) hk
          have hi := (List.getElem?_eq_some_iff.1 h2).1
          have := hcell i hi
          rw [Array.getElem?_toList, this] at h1
          cases h1
          exact hrep i a h2
      · have h := repA_d (c_of hx)
        cases h
        exact OK1.same hI hnil hk (tup2 hz (.c _ _ (.d _ _ (.bool _))))
      · exact hk.elim
  · exact hk.elim

/-! ### Lengths, greater and less -/
def aLen (x : Val) (K : Val → Prop) : Prop :=
  match x with
  | .c (.d (.str s)) => K (.c (.d (.int .i64 s.size)))
  | .c (.d (.sl _ _ rows)) => K (.c (.d (.int .i64 rows.length)))
  | .c (.full _ _ rows) => K (.c (.d (.int .i64 rows.length)))
  | .c (.own _ n) => K (.c (.d (.int .i64 n)))
  | .c (.d .nils) => K (.c (.d (.int .i64 0)))
  | .c .emp => K (.c (.d (.int .i64 0)))
  | _ => False

def lenTy (T : Tab) (t : Nat) (x : Val) : Bool :=
  match T.ti t with
  | some i => match i.k, x with
    | .str, .c (.d (.str _)) => true
    | .sl _, .c (.d (.str _)) => false
    | .sl _, _ => true
    | _, _ => false
  | none => false

theorem sl_len {w : World} {C : Cz} {u : Value} {x : Val} (hx : RepV w C u x) {K : Val → Prop} (hk : aLen x K) (hs : ∀ s, x ≠ .c (.d (.str s))) : ∃ A n c, u = .slice A n c ∧ K (.c (.d (.int .i64 (n : Int)))) := by
  unfold aLen at hk
  split at hk
  · exact absurd rfl (hs _)
  · have h := repA_d (c_of hx)
    cases h with
    | sl0 => exact ⟨_, _, _, rfl, hk⟩
    | sl r sz b o n c rows cs e fz vs hr hh hn hc hsz hcell hrep => exact ⟨_, _, _, rfl, by rw [hn]; exact hk⟩
  · have h := c_of hx
    cases h with
    | full A n r sz rows hn h => exact ⟨_, _, _, rfl, by rw [← hn]; exact hk⟩
  · have h := c_of hx
    cases h with
    | own o n e he hr hn A c hv => exact ⟨_, _, _, rfl, hk⟩
  · have h := repA_d (c_of hx)
    cases h
    exact ⟨_, _, _, rfl, hk⟩
  · have h := c_of hx
    cases h
    exact ⟨_, _, _, rfl, hk⟩
  · exact hk.elim

include HT in
theorem ok_len {w : World} {C : Cz} {σ : List AObj} (hI : Inv w C σ) {t ty : Nat} {u : Value} {x : Val} (hx : RepV w C u x) {K : Val → List AObj → Prop} (ht : lenTy T t x = true) (hk : aLen x (fun z => K z σ)) :
    OK1 P (Builtin.len_ #[t] ty #[u]) w C σ K := by
  unfold lenTy at ht
  split at ht
  · rename_i i hi
    obtain ⟨_, d, _, h1, h2, h3, _⟩ := ti_parts (HT.ti t i hi)
    split at ht
    · rename_i hik
      rw [hik] at h3
      have := kind_str h3
      subst this
      have := str_of hx
      subst this
      exact OK1.same hI (by simp [Builtin.len_, run_underlying h2, goInt]) hk (.c _ _ (.d _ _ (.int _ _)))
    · cases ht
    · rename_i hik hns
      rw [hik] at h3
      have := kind_sl h3
      subst this
      obtain ⟨A, n, c, rfl, hk⟩ := sl_len hx hk (fun s e => by subst e; exact hns s rfl)
      exact OK1.same hI (by simp [Builtin.len_, run_underlying h2, goInt]) hk (.c _ _ (.d _ _ (.int _ _)))
    · cases ht
  · cases ht

def aMax (x y : Val) (K : Val → Prop) : Prop :=
  match x, y with
  | .c (.d (.int k a)), .c (.d (.int k' b)) => bif ikEq k k' then K (.c (.d (.int k (max a b)))) else False
  | _, _ => False
def aMin (x y : Val) (K : Val → Prop) : Prop :=
  match x, y with
  | .c (.d (.int k a)), .c (.d (.int k' b)) => bif ikEq k k' then K (.c (.d (.int k (min a b)))) else False
  | _, _ => False

theorem ok_max {w : World} {C : Cz} {σ : List AObj} (hI : Inv w C σ) {ts : Array Nat} {ty : Nat} {u v : Value} {x y : Val} (hx : RepV w C u x) (hy : RepV w C v y) {K : Val → List AObj → Prop} (hk : aMax x y (fun z => K z σ)) :
    OK1 P (Builtin.max_ ts ty #[u, v]) w C σ K := by
  unfold aMax at hk
  split at hk
  · rename_i k a k' b
    cases hn : ikEq k k' with
    | false => rw [hn] at hk; exact hk.elim
    | true =>
    rw [hn] at hk
    have h1 := int_of hx
    have h2 := int_of hy
    subst h1; subst h2
    refine OK1.same hI (v := .int k (max a b)) ?_ hk (.c _ _ (.d _ _ (.int _ _)))
    simp only [Builtin.max_, List.foldlM_cons, List.foldlM_nil, Builtin.max2, Sem.run_bind, Sem.run_pure, Result.andThen_ok]
    congr 2
    rw [Int.max_def]
    by_cases h : b > a
    · rw [if_pos h, if_pos (by omega)]
    · rw [if_neg h]
      by_cases h' : a ≤ b
      · rw [if_pos h']; omega
      · rw [if_neg h']
  · exact hk.elim
theorem ok_min {w : World} {C : Cz} {σ : List AObj} (hI : Inv w C σ) {ts : Array Nat} {ty : Nat} {u v : Value} {x y : Val} (hx : RepV w C u x) (hy : RepV w C v y) {K : Val → List AObj → Prop} (hk : aMin x y (fun z => K z σ)) :
    OK1 P (Builtin.min_ ts ty #[u, v]) w C σ K := by
  unfold aMin at hk
  split at hk
  · rename_i k a k' b
    cases hn : ikEq k k' with
    | false => rw [hn] at hk; exact hk.elim
    | true =>
    rw [hn] at hk
    have h1 := int_of hx
    have h2 := int_of hy
    subst h1; subst h2
    refine OK1.same hI (v := .int k (min a b)) ?_ hk (.c _ _ (.d _ _ (.int _ _)))
    simp only [Builtin.min_, List.foldlM_cons, List.foldlM_nil, Builtin.min2, Sem.run_bind, Sem.run_pure, Result.andThen_ok]
    congr 2
    rw [Int.min_def]
    by_cases h : b < a
    · rw [if_pos h, if_neg (by omega)]
    · rw [if_neg h, if_pos (by omega)]
  · exact hk.elim

end
end Go.Proofs.Ytdhkopangbgehaa.E
