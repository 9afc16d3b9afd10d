/- Texts, merged: As, As2, Df6, Tmd, Pu1, Pu2, Pu3, Df7. No conditions. -/
import Derived.Test.YthmbncehoblgpaaDoorTab
import Derived.WalkKit
import Derived.LaidEql
import Derived.Stop.Asserts
import Derived.RowKitTokens
import Derived.Test.YthmbncehoblgpaaDoorEngX3
import Derived.Below
import Derived.OneCell
import Derived.Test.YthmbncehoblgpaaDoorGenX7
import Derived.Test.YthmbncehoblgpaaDoorGenX5
import Derived.Test.YthmbncehoblgpaaDoorGenX4
/- errors.As at a target of type **api.Fault, errors.Is at a number: Go's own texts walked. No conditions. -/
set_option linter.unusedVariables false
set_option linter.unusedSimpArgs false
namespace Go.Proofs.YthmbncehoblgpaaDoor.E
open Go Go.RowKit Go.Extern.Stop Go.Stop Go.Extern

/-- errors.As(nil, target). -/
theorem as_nil (t : Value) (w : World) :
    Calls Tryd.prog 15 #[.nilIface, t] w fun e w' => e = .returned (.bool false) ∧ w' = w := by
  go_enter Tryd.func15, Tryd.ntmps15
  go_wp2
  go_ret
  exact ⟨rfl, rfl⟩

/-! ### CLOSED FACTS ON THE MODEL's ENTRIES FOR internal/reflectlite, at this program's types: 25: *p.E · 27: **p.E · 23: error · 45: reflectlite's rtype · 1: how many package-level variables the dump has -/
theorem as_valueOf27 (t : Addr) (w : World) : (ReflectliteValue.unpack (.iface 56 (.pointer (some t)))).run Tryd.prog w
    = .ok (.agg #[.pointer (some ⟨5, 56, none⟩), .pointer (some ⟨w.heap.size, 0, none⟩), .int .u64 150]) (w.alloc (.cells #[.pointer (some t)] 56)) := by kernel_rfl
theorem as_type27 (a : Addr) (w : World) : (ReflectliteValue.methodAny (ReflectliteValue.valueError "reflectlite.Value.Type" 0) (fun t _ _ _ => ReflectliteType.toType t) #[.agg #[.pointer (some ⟨5, 56, none⟩), .pointer (some a), .int .u64 150]]).run Tryd.prog w
    = .ok (.iface 118 (.agg #[.pointer (some ⟨5, 56, none⟩)])) w := by kernel_rfl
theorem as_methodKind (h : Value) (w : World) : (Go.method 317 118 (.agg #[h]) "Kind").run Tryd.prog w = .ok (155, h) w := by kernel_rfl
theorem as_kind27 (w : World) : ((ReflectliteType.abiMethod fun t => (fun a : Nat => Value.int IntKind.u8 (a : Int)) <$> Rtype.kind t) #[.pointer (some ⟨5, 56, none⟩)]).run Tryd.prog w = .ok (.int .u8 22) w := by kernel_rfl
theorem as_kind25 (w : World) : ((ReflectliteType.abiMethod fun t => (fun a : Nat => Value.int IntKind.u8 (a : Int)) <$> Rtype.kind t) #[.pointer (some ⟨5, 51, none⟩)]).run Tryd.prog w = .ok (.int .u8 22) w := by kernel_rfl

/-! ### THE ENTRIES THAT READ OR WRITE MEMORY: laws with a premise on the cell (after Derived/Lib/ReflectliteSlice.lean's manner: each unfolding a lemma of its own, by rfl) -/
theorem rlm (z : Sem Value) (f : TypeId → Addr → Nat → Nat → Sem Value) (v : Value) :
    ReflectliteValue.method z f #[v] = (do match ← ReflectliteValue.parts v with | none => z | some (t, a, fl) => f t a fl (fl % 32)) := rfl
theorem as_parts27 (a : Addr) (w : World) : (ReflectliteValue.parts (.agg #[.pointer (some ⟨5, 56, none⟩), .pointer (some a), .int .u64 150])).run Tryd.prog w = .ok (some (56, a, 150)) w := by kernel_rfl
/-- (Value).IsNil at the Value of a **p.E that is not nil. -/
theorem as_isNil27 (a p : Addr) (W : World) (ha : W.cell? a = some (.pointer (some p))) :
    (ReflectliteValue.method (ReflectliteValue.valueError "reflectlite.Value.IsNil" 0) ReflectliteValue.isNil #[.agg #[.pointer (some ⟨5, 56, none⟩), .pointer (some a), .int .u64 150]]).run Tryd.prog W = .ok (.bool false) W := by
  rw [rlm]
  simp only [Sem.run_bind, as_parts27, Result.andThen]
  simp [ReflectliteValue.isNil, loadVar, isAgg, underlying, Tryd.underlying56, ha, Result.andThen]

theorem as_methodElem (h : Value) (w : World) : (Go.method 317 118 (.agg #[h]) "Elem").run Tryd.prog w = .ok (168, .agg #[h]) w := by kernel_rfl
theorem as_methodImplements (h : Value) (w : World) : (Go.method 317 118 (.agg #[h]) "Implements").run Tryd.prog w = .ok (169, .agg #[h]) w := by kernel_rfl
theorem as_methodAssignableTo (h : Value) (w : World) : (Go.method 317 118 (.agg #[h]) "AssignableTo").run Tryd.prog w = .ok (166, .agg #[h]) w := by kernel_rfl
theorem as_elem27 (w : World) : (ReflectliteType.method ReflectliteType.elem #[.agg #[.pointer (some ⟨5, 56, none⟩)]]).run Tryd.prog w = .ok (.iface 118 (.agg #[.pointer (some ⟨5, 51, none⟩)])) w := by kernel_rfl
theorem as_implements25 (w : World) : (ReflectliteType.relation "Implements" ReflectliteType.implements_ #[.agg #[.pointer (some ⟨5, 51, none⟩)], .iface 118 (.agg #[.pointer (some ⟨5, 31, none⟩)])]).run Tryd.prog w = .ok (.bool true) w := by kernel_rfl
theorem as_typeOf25 (v : Value) (w : World) : (ReflectliteType.typeOf #[.iface 51 v]).run Tryd.prog w = .ok (.iface 118 (.agg #[.pointer (some ⟨5, 51, none⟩)])) w := by kernel_rfl
theorem as_assignable25 (w : World) : (ReflectliteType.relation "AssignableTo" ReflectliteType.assignableTo #[.agg #[.pointer (some ⟨5, 51, none⟩)], .iface 118 (.agg #[.pointer (some ⟨5, 51, none⟩)])]).run Tryd.prog w = .ok (.bool true) w := by kernel_rfl
theorem as_valueOf25 (e : Addr) (w : World) : (ReflectliteValue.unpack (.iface 51 (.pointer (some e)))).run Tryd.prog w
    = .ok (.agg #[.pointer (some ⟨5, 51, none⟩), .pointer (some ⟨w.heap.size, 0, none⟩), .int .u64 150]) (w.alloc (.cells #[.pointer (some e)] 51)) := by kernel_rfl

theorem as_elemOf27 (w : World) : (Rtype.elem? 56).run Tryd.prog w = .ok (some 51) w := by kernel_rfl
theorem as_mk25 (p : Addr) (w : World) : (ReflectliteValue.mk 51 p ReflectliteValue.flagAddr).run Tryd.prog w = .ok (.agg #[.pointer (some ⟨5, 51, none⟩), .pointer (some p), .int .u64 406]) w := by kernel_rfl
/-- (Value).Elem at the Value of a **p.E that is not nil: the Value of the *p.E variable that it points to, addressable. -/
theorem as_elemV27 (a p : Addr) (W : World) (ha : W.cell? a = some (.pointer (some p))) :
    (ReflectliteValue.method (ReflectliteValue.valueError "reflectlite.Value.Elem" 0) ReflectliteValue.elem #[.agg #[.pointer (some ⟨5, 56, none⟩), .pointer (some a), .int .u64 150]]).run Tryd.prog W
      = .ok (.agg #[.pointer (some ⟨5, 51, none⟩), .pointer (some p), .int .u64 406]) W := by
  rw [rlm]
  simp only [Sem.run_bind, as_parts27, Result.andThen]
  simp [ReflectliteValue.elem, loadVar, isAgg, underlying, Tryd.underlying56, ha, Result.andThen, as_elemOf27, as_mk25]
theorem rls (v x : Value) : ReflectliteValue.set #[v, x] = (do
    let (some (dst, a, fl), some (src, b, _)) := (← ReflectliteValue.parts v, ← ReflectliteValue.parts x)
      | unsupported (.noEntry "extern/(internal/reflectlite.Value).Set.zeroValue")
    if fl / ReflectliteValue.flagAddr % 2 == 0 then unsupported (.noEntry "extern/(internal/reflectlite.Value).Set.unaddressable")
    let val ← loadVar src b
    if ← Rtype.directlyAssignable dst src then storeVar dst a val
    else if ← Rtype.implements dst src then
      if (← Rtype.kind src) == 20 then
        match val with
        | .nilIface => unsupported (.noEntry "extern/reflectlite: a nil value of one interface type handed on as a value of another")
        | _ => storeVar dst a val
      else storeVar dst a (.iface src val)
    else panicString ("reflectlite.Set: value of type " ++ (← Rtype.spelt src) ++ " is not assignable to type " ++ (← Rtype.spelt dst))
    pure (.tuple #[])) := rfl
theorem as_parts25a (a : Addr) (w : World) : (ReflectliteValue.parts (.agg #[.pointer (some ⟨5, 51, none⟩), .pointer (some a), .int .u64 406])).run Tryd.prog w = .ok (some (51, a, 406)) w := by kernel_rfl
theorem as_parts25 (a : Addr) (w : World) : (ReflectliteValue.parts (.agg #[.pointer (some ⟨5, 51, none⟩), .pointer (some a), .int .u64 150])).run Tryd.prog w = .ok (some (51, a, 150)) w := by kernel_rfl
theorem as_direct25 (w : World) : (Rtype.directlyAssignable 51 51).run Tryd.prog w = .ok true w := by kernel_rfl
/-- (Value).Set: the *p.E variable at 'ta' gets what the Value's own variable 'b' holds. -/
theorem as_set25 (ta b e : Addr) (old : Value) (W : World) (hb : W.cell? b = some (.pointer (some e))) (ht : W.cell? ta = some old) (hf : W.frozen? ta = false) :
    (ReflectliteValue.set #[.agg #[.pointer (some ⟨5, 51, none⟩), .pointer (some ta), .int .u64 406], .agg #[.pointer (some ⟨5, 51, none⟩), .pointer (some b), .int .u64 150]]).run Tryd.prog W
      = .ok (.tuple #[]) (W.setCell ta (.pointer (some e))) := by
  rw [rls]
  simp only [Sem.run_bind, as_parts25a, as_parts25, Result.andThen]
  simp [ReflectliteValue.flagAddr, loadVar, isAgg, underlying, Tryd.underlying51, hb, Result.andThen, as_direct25, storeVar, Value.cells, storeCells, Addr.add]
  rw [run_store Tryd.prog W ta _ _ (by rfl)]
  simp [ht, hf]

set_option maxHeartbeats 4000000 in
theorem as_hit (e t : Addr) (old : Value) (w : World) (hg : w.cell? ⟨0, 0, none⟩ = some (.iface 118 (.agg #[.pointer (some ⟨5, 31, none⟩)]))) (ht0 : w.cell? t = some old) (hf0 : w.frozen? t = false) :
    Calls Tryd.prog 15 #[.iface 51 (.pointer (some e)), .iface 56 (.pointer (some t))] w fun ev w' => ev = .returned (.bool true) ∧ w' = ((((w.alloc (.cells #[.pointer (some t)] 56)).alloc (.cells #[.pointer (some ⟨5, 56, none⟩), .pointer (some ⟨w.heap.size, 0, none⟩), .int .u64 150] 79)).alloc (.cells #[.pointer (some ⟨5, 56, none⟩), .pointer (some ⟨w.heap.size, 0, none⟩), .int .u64 150] 79)).alloc (.cells #[.pointer (some e)] 51)).setCell t (.pointer (some e)) := by
  have h6 := @run_callFunc_extern Tryd.prog 34 _ (fun args => ReflectliteValue.unpack (args.getD 0 (.tuple #[]))) Tryd.func34 (by kernel_rfl) (by kernel_rfl) (by kernel_rfl) (by kernel_rfl)
  have h7 := @run_callFunc_extern Tryd.prog 35 _ (ReflectliteValue.methodAny (ReflectliteValue.valueError "reflectlite.Value.Type" 0) (fun t _ _ _ => ReflectliteType.toType t)) Tryd.func35 (by kernel_rfl) (by kernel_rfl) (by kernel_rfl) (by kernel_rfl)
  have h8 := @run_callFunc_extern Tryd.prog 36 _ (ReflectliteValue.method (ReflectliteValue.valueError "reflectlite.Value.IsNil" 0) ReflectliteValue.isNil) Tryd.func36 (by kernel_rfl) (by kernel_rfl) (by kernel_rfl) (by kernel_rfl)
  have h27 := @run_callFunc_extern Tryd.prog 155 _ (ReflectliteType.abiMethod fun t => do pure (.int .u8 (← Rtype.kind t))) Tryd.func155 (by kernel_rfl) (by kernel_rfl) (by kernel_rfl) (by kernel_rfl)
  have h37 := @run_callFunc_extern Tryd.prog 168 _ (ReflectliteType.method ReflectliteType.elem) Tryd.func168 (by kernel_rfl) (by kernel_rfl) (by kernel_rfl) (by kernel_rfl)
  have h38 := @run_callFunc_extern Tryd.prog 169 _ (ReflectliteType.relation "Implements" ReflectliteType.implements_) Tryd.func169 (by kernel_rfl) (by kernel_rfl) (by kernel_rfl) (by kernel_rfl)
  have h10 := @run_callFunc_extern Tryd.prog 61 _ ReflectliteType.typeOf Tryd.func61 (by kernel_rfl) (by kernel_rfl) (by kernel_rfl) (by kernel_rfl)
  have h35 := @run_callFunc_extern Tryd.prog 166 _ (ReflectliteType.relation "AssignableTo" ReflectliteType.assignableTo) Tryd.func166 (by kernel_rfl) (by kernel_rfl) (by kernel_rfl) (by kernel_rfl)
  have h11 := @run_callFunc_extern Tryd.prog 62 _ (ReflectliteValue.method (ReflectliteValue.valueError "reflectlite.Value.Elem" 0) ReflectliteValue.elem) Tryd.func62 (by kernel_rfl) (by kernel_rfl) (by kernel_rfl) (by kernel_rfl)
  have h12 := @run_callFunc_extern Tryd.prog 63 _ ReflectliteValue.set Tryd.func63 (by kernel_rfl) (by kernel_rfl) (by kernel_rfl) (by kernel_rfl)
  have tO := as_typeOf25
  have mA := as_methodAssignableTo
  have a25 := as_assignable25
  have v25 := as_valueOf25
  have f6 := as_valueOf27
  have f7 := as_type27
  have mK := as_methodKind
  have mE := as_methodElem
  have mI := as_methodImplements
  have k27 := as_kind27
  have k25 := as_kind25
  have e27 := as_elem27
  have i25 := as_implements25
  have n8 := as_isNil27 ⟨w.heap.size, 0, none⟩ t ((w.alloc (.cells #[.pointer (some t)] 56)).alloc (.cells #[.pointer (some ⟨5, 56, none⟩), .pointer (some ⟨w.heap.size, 0, none⟩), .int .u64 150] 79)) (by simp)
  have hlt : 0 < w.heap.size := by
    rcases Nat.eq_zero_or_pos w.heap.size with h0 | h
    · simp [World.cell?, h0] at hg
    · exact h
  have hg2 : ((w.alloc (.cells #[.pointer (some t)] 56)).alloc (.cells #[.pointer (some ⟨5, 56, none⟩), .pointer (some ⟨w.heap.size, 0, none⟩), .int .u64 150] 79)).cell? ⟨0, 0, none⟩ = some (.iface 118 (.agg #[.pointer (some ⟨5, 31, none⟩)])) := by
    rw [World.cell?_alloc_lt _ _ ⟨0, 0, none⟩ (by simp), World.cell?_alloc_lt _ _ ⟨0, 0, none⟩ hlt]; exact hg
  have htl : t.block < w.heap.size := by
    rcases Nat.lt_or_ge t.block w.heap.size with h | h
    · exact h
    · simp [World.cell?, Array.getElem?_eq_none h] at ht0
  have el := as_elemV27 ⟨w.heap.size, 0, none⟩ t (((w.alloc (.cells #[.pointer (some t)] 56)).alloc (.cells #[.pointer (some ⟨5, 56, none⟩), .pointer (some ⟨w.heap.size, 0, none⟩), .int .u64 150] 79)).alloc (.cells #[.pointer (some ⟨5, 56, none⟩), .pointer (some ⟨w.heap.size, 0, none⟩), .int .u64 150] 79)) (by rw [World.cell?_alloc_lt _ _ ⟨w.heap.size, 0, none⟩ (by simp; omega)]; simp)
  have st := as_set25 t ⟨w.heap.size + 1 + 1 + 1, 0, none⟩ e old ((((w.alloc (.cells #[.pointer (some t)] 56)).alloc (.cells #[.pointer (some ⟨5, 56, none⟩), .pointer (some ⟨w.heap.size, 0, none⟩), .int .u64 150] 79)).alloc (.cells #[.pointer (some ⟨5, 56, none⟩), .pointer (some ⟨w.heap.size, 0, none⟩), .int .u64 150] 79)).alloc (.cells #[.pointer (some e)] 51))
    (by rw [World.cell?_alloc_at _ _ _ _ (by simp)]; rfl)
    (by rw [World.cell?_alloc_lt _ _ t (by simp; omega), World.cell?_alloc_lt _ _ t (by simp; omega), World.cell?_alloc_lt _ _ t (by simp; omega), World.cell?_alloc_lt _ _ t htl]; exact ht0)
    (by rw [World.frozen?_alloc_old _ _ t (by simp; omega), World.frozen?_alloc_old _ _ t (by simp; omega), World.frozen?_alloc_old _ _ t (by simp; omega), World.frozen?_alloc_old _ _ t (Nat.ne_of_lt htl)]; exact hf0)
  go_enter Tryd.func15, Tryd.ntmps15
  go_wp2
  refine wp_loop_rounds 1 ?_
  rw [rounds_succ]
  go_wp2
  go_ret
  exact ⟨rfl, rfl⟩
end Go.Proofs.YthmbncehoblgpaaDoor.E

/- errors.As and errors.Is as calls over the engine's data. No conditions. -/
set_option linter.unusedVariables false
set_option linter.unusedSimpArgs false
namespace Go.Proofs.YthmbncehoblgpaaDoor.E
open Go Go.RowKit

theorem two_vs {w : World} {C : Cz} {vs : Array Value} {x y : Val} (h : RepVs w C vs.toList [x, y]) : ∃ u v, vs = #[u, v] ∧ RepV w C u x ∧ RepV w C v y := by
  have hl : vs.size = 2 := by have := h.1; simpa using this
  obtain ⟨u, v, rfl⟩ : ∃ u v, vs = #[u, v] := by
    match vs, hl with
    | ⟨[u, v]⟩, _ => exact ⟨u, v, rfl⟩
  exact ⟨u, v, rfl, h.2 0 u x rfl rfl, h.2 1 v y rfl rfl⟩
theorem asN_call : ACall Tryd.prog 15 [.c (.d .nili), .c (.ifc 56 (.ptr 0 0))] [.var [.d .nilp]] (fun o σ => o = .ret (.c (.d (.bool false))) ∧ σ = [.var [.d .nilp]]) where
  out := fun w C vs hI hv => by
    obtain ⟨u, v, rfl, h1, h2⟩ := two_vs hv
    cases repA_d (c_of h1)
    refine (as_nil v w).mono fun e w' ⟨g1, g2⟩ => ?_
    subst g1; subst g2
    exact ⟨_, _, C, ⟨rfl, rfl⟩, hI, .refl _ _ _, _, rfl, .c _ _ (.d _ _ (.bool _))⟩
theorem as_call (cells : List DV) : ACall Tryd.prog 15 [.c (.d (.ifc 51 (.rp 0 cells))), .c (.ifc 56 (.ptr 0 0))] [.var [.d .nilp]]
    (fun o σ => o = .ret (.c (.d (.bool true))) ∧ σ = [.var [.d (.rp 0 cells)]]) where
  out := fun w C vs hI hv => by
    obtain ⟨u, v, rfl, h1, h2⟩ := two_vs hv
    cases repA_d (c_of h1) with
    | ifc _ u _ h1 =>
    cases (c_of h2) with
    | ifc _ v _ h2 =>
    cases h2 with
    | ptr _ _ b en he hr hb =>
    have hrp := h1
    cases h1 with
    | rp _ be oe _ cs e fz vs hrt hh hcell hrep =>
    obtain ⟨k1, b', ca, ty, k2, k3, k4⟩ := hI.ok 0 _ en rfl he
    rw [hb] at k2; cases k2
    obtain ⟨x, rfl⟩ : ∃ x, ca = #[x] := by
      have := k4.1
      match ca, this with
      | ⟨[x]⟩, _ => exact ⟨x, rfl⟩
    have hx := k4.2 0 x _ rfl rfl
    cases repA_d hx
    obtain ⟨hun, hblt⟩ := hI.unrg 0 _ en b rfl rfl he hb
    have hg := (hI.glb _ _ (List.mem_singleton.2 rfl)).2
    have hfz : w.frozen? ⟨b, 0, none⟩ = false := by simp [World.frozen?, k3]
    refine (as_hit ⟨be, oe, none⟩ ⟨b, 0, none⟩ (.pointer none) w hg (by simp [World.cell?, k3]) hfz).mono fun e1 w' ⟨g1, g2⟩ => ?_
    subst g1
    generalize hW : (((w.alloc _).alloc _).alloc _).alloc _ = W at g2
    have hWs : W.heap.size = w.heap.size + 4 := by rw [← hW]; simp
    have hWo : ∀ k, k < w.heap.size → W.heap[k]? = w.heap[k]? := fun k hk => by
      rw [← hW, alloc_old _ _ (by simp; omega), alloc_old _ _ (by simp; omega), alloc_old _ _ (by simp; omega), alloc_old _ _ hk]
    have hos : W.os = w.os ∧ W.tape = w.tape ∧ W.output = w.output := by rw [← hW]; exact ⟨rfl, rfl, rfl⟩
    have hs' : w'.heap.size = w.heap.size + 4 := by rw [g2]; simp [hWs]
    have hold : ∀ k, k < w.heap.size → en.b ≠ some k → w'.heap[k]? = w.heap[k]? := fun k hk hne => by
      rw [g2, Below.heap_setCell _ _ _ _ (fun e => hne (by rw [hb, e])), hWo k hk]
    have hnew : w'.heap[b]? = some (.cells #[.pointer (some ⟨be, oe, none⟩)] ty (0, 0)) := by
      rw [g2]
      exact one_setCell (by rw [hWo b hblt]; exact k3)
    obtain ⟨c1, i1⟩ := hI.upd (w' := w') (o' := .var [.d (.rp 0 cells)]) rfl he rfl (by omega) (.refl en) hold (fun b hb => .inl hb) (fun hle => ⟨k1, b, _, ty, hb, hnew, rfl, fun i v x hv hx => by
      match i with
      | 0 => simp at hv hx; subst hv; subst hx; exact .d _ _ (hrp.mono hle.rg)
      | i + 1 => simp at hv⟩)
    have x1 := Ext.upd (w' := w') hI (o' := .var [.d (.rp 0 cells)]) rfl he rfl (by rw [g2]; exact hos.1) (by rw [g2]; exact hos.2.1) (by rw [g2]; exact hos.2.2) (by omega) c1 hold (fun b hb => .inl hb)
    exact ⟨_, _, _, ⟨rfl, rfl⟩, i1, x1, _, rfl, .c _ _ (.d _ _ (.bool _))⟩
end Go.Proofs.YthmbncehoblgpaaDoor.E

/- Walks: defs.Needs, the document's, the law DefsNeeds. No conditions. -/
set_option linter.unusedVariables false
set_option linter.unusedSimpArgs false
namespace Go.Proofs.YthmbncehoblgpaaDoor.E
open Go

theorem soundF_ok {l : List Df} {main : ByteArray} (h : (soundF l main).2.1 = 0) : l.length ≤ 256 ∧ Uniq l ∧ (∀ d ∈ l, errD d = 0) ∧ ∃ (k : Nat) (d : Df), l[k]? = some d ∧ d.name = main ∧ soundF l main = ((k : Int), 0, 0, noB) := by
  by_cases hl : l.length > 256
  · rw [soundF_long hl] at h; cases h
  by_cases hb : ∀ j, j < l.length → badAt l j = false
  · by_cases he : ∀ j, j < l.length → errAt l j = 0
    · have hend := soundF_end (main := main) hl hb he
      by_cases hz : nix main 0 l = 0
      · rw [hend, if_pos hz] at h; cases h
      · obtain ⟨k, d, h1, h2, h3, h4⟩ := nix_pos hz
        refine ⟨by omega, soundF_uniq hb, fun d hd => ?_, k, d, h1, h2, ?_⟩
        · obtain ⟨j, hj⟩ := List.getElem?_of_mem hd
          have := he j (List.getElem?_eq_some_iff.1 hj).1
          simpa [errAt, hj] using this
        · rw [hend, if_neg hz, h3]
          congr 1
          omega
    · exfalso
      simp only [Classical.not_forall] at he
      obtain ⟨j, hj, hne⟩ := he
      have hx : ∃ i : Nat, i < l.length ∧ errAt l i ≠ 0 ∧ ∀ q, q < i → errAt l q = 0 := by
        induction j using Nat.strongRecOn with
        | _ j ih =>
          by_cases hq : ∀ q, q < j → errAt l q = 0
          · exact ⟨j, hj, hne, hq⟩
          · simp only [Classical.not_forall] at hq
            obtain ⟨q, hq1, hq2⟩ := hq
            exact ih q hq1 (by omega) hq2
      obtain ⟨i, hi, h1, h2⟩ := hx
      obtain ⟨d, hd⟩ : ∃ d, l[i]? = some d := ⟨_, List.getElem?_eq_getElem hi⟩
      have e : errAt l i = errD d := by simp [errAt, hd]
      rw [soundF_err hl hb hd (by rw [← e]; exact h1) h2] at h
      exact h1 (e.trans h)
  · exfalso
    simp only [Classical.not_forall] at hb
    obtain ⟨j, hj, hne⟩ := hb
    have hx : ∃ i : Nat, i < l.length ∧ badAt l i = true ∧ ∀ q, q < i → badAt l q = false := by
      induction j using Nat.strongRecOn with
      | _ j ih =>
        by_cases hq : ∀ q, q < j → badAt l q = false
        · exact ⟨j, hj, by simpa using hne, hq⟩
        · simp only [Classical.not_forall] at hq
          obtain ⟨q, hq1, hq2⟩ := hq
          exact ih q hq1 (by omega) hq2
    obtain ⟨i, hi, h1, h2⟩ := hx
    obtain ⟨d, hd⟩ : ∃ d, l[i]? = some d := ⟨_, List.getElem?_eq_getElem hi⟩
    rw [soundF_bad hl hd h1 h2] at h
    cases h
noncomputable def needT (l : List Df) (k : Nat) : Nat → List ByteArray
  | 0 => []
  | n + 1 => needT l k n ++ (if isR l k n = true then [nameAt l n] else [])
theorem needT_len (l : List Df) (k : Nat) : ∀ n, (needT l k n).length ≤ n
  | 0 => Nat.le_refl _
  | n + 1 => by
    have := needT_len l k n
    simp only [needT, List.length_append]
    split <;> simp <;> omega
def needsE (l : List Df) (name : ByteArray) : Int := (soundF l name).2.1
noncomputable def needsN (l : List Df) (name : ByteArray) : List ByteArray := if needsE l name = 0 then needT l (soundF l name).1.toNat (soundF l name).1.toNat else []
structure NdI (l : List Df) where
  n : Nat
  hn : n ≤ l.length
set_option maxRecDepth 10000 in
theorem Needs_call (l : List Df) (name : ByteArray) : ACall Tryd.prog 6 [.c (.d (.sl 0 15 (drows l))), .c (.d (.str name))] [] (fun o σ => o = .ret (.tup [.c (.d (.sl 0 1 (strs (needsN l name)))), .c (.d (.int .i64 (needsE l name)))]) ∧ σ = []) := by
  have c1 := sound_call l name
  by_cases hz : needsE l name = 0
  · obtain ⟨hl, hu, _, k, d, hd, hn, hs⟩ := soundF_ok hz
    have hk := (List.getElem?_eq_some_iff.1 hd).1
    have hN : needsN l name = needT l k k := by rw [needsN, if_pos hz, hs]; rfl
    rw [hz, hN]
    rw [hs] at c1
    have c2 := needed_call l k hk hl hu
    have hB : ∀ (i : Nat) row, (brows (needB l k))[i]? = some row → row = [.bool (isR l k i)] := fun i row h => by
      obtain ⟨b, h1, rfl⟩ := brows_get h
      simp only [needB, List.getElem?_map] at h1
      by_cases hi : i < l.length
      · rw [List.getElem?_range hi] at h1; cases h1; rfl
      · rw [List.getElem?_eq_none (by simpa using hi)] at h1; cases h1
    have hBl : (brows (needB l k)).length = l.length := by simp [brows_len, needB]
    have hc := asN_call
    clear hz hN hs
    generalize brows (needB l k) = B at *
    refine ACall.body tab_ok (ρ := 0) (N := 50) Tryd.func6 rfl rfl rfl rfl rfl ?_
    repeat' first | refine AW.seq ?_ | refine AW.block ?_ | (refine (_root_.id : AW _ _ _ (.region 4 _ true) _ _ → _) ?_; refine AW.draw (id := 4) tab_ok mixed [0, 1, 2, 3, 4, 5] (by kernel_rfl) ?_; conv => whnf) | ((first | refine AW.region tab_ok ?_ | refine AW.cond ?_ | refine AW.skip ?_ | refine AW.ret ?_ | refine AW.exit ?_); conv => whnf) | ((first | refine (c1).mono ?_ | refine (c2).mono ?_ | refine (hc).mono ?_); rintro _ _ ⟨rfl, rfl⟩; conv => whnf) | ((first | refine And.intro (@rfl Val _) ?_ | refine And.intro (by decide) ?_ | refine cs (fun _ => ?_) (fun _ => ?_)) <;> conv => whnf)
    refine AW.ghostE 9 1 9 (by decide) rfl ?_
    refine AW.loop (ι := NdI l) (fun x => ⟨50, [(29, .c (.d (.int .i64 x.n))), (28, .c (.d (.int .i64 B.length))), (27, .c (.d (.sl 0 1 B))), (9, .c (.own 1 (strs (needT l k (min x.n k))).length)), (6, .c (.d (.int .i64 k))), (0, .c (.d (.sl 0 15 (drows l))))], [.var [.d .nilp], .row 9 1 (strs (needT l k (min x.n k)))], []⟩)
      (fun x => l.length - x.n) ⟨0, Nat.zero_le _⟩ 2 (fun _ => rfl) (Nat.le_of_ble_eq_true rfl) ⟨⟨rfl, rfl, rfl, by simp [needT, strs]; rfl, rfl, rfl, trivial⟩, rfl, rfl, ⟨[], by simp [needT, strs]⟩, rfl⟩ (fun x => ?_)
    obtain ⟨n, hn⟩ := x
    have hnl := needT_len l k (min n k)
    repeat' first | refine AW.seq ?_ | refine AW.block ?_ | (refine (_root_.id : AW _ _ _ (.region 4 _ true) _ _ → _) ?_; refine AW.draw (id := 4) tab_ok mixed [0, 1, 2, 3, 4, 5] (by kernel_rfl) ?_; conv => whnf) | ((first | refine AW.region tab_ok ?_ | refine AW.cond ?_ | refine AW.skip ?_ | refine AW.ret ?_ | refine AW.exit ?_); conv => whnf) | ((first | refine And.intro (@rfl Val _) ?_ | refine And.intro (by decide) ?_ | refine cs (fun _ => ?_) (fun _ => ?_)) <;> conv => whnf)
    · rename_i h
      have := of_decide_eq_true h
      simp only [hBl] at this
      refine ⟨by simp only; omega, fun row hr => ?_⟩
      obtain rfl := hB n row (by simpa using hr)
      have hnlt : n < l.length := by omega
      obtain ⟨d, hd⟩ : ∃ d, l[n]? = some d := ⟨_, List.getElem?_eq_getElem hnlt⟩
      have hrow2 : (drows l)[n]? = some d.cells := by simp [drows, hd]
      have hnm : nameAt l n = d.name := by simp [nameAt, hd]
      have hstep : ∀ (b : Bool), isR l k n = b → n < k → needT l k (min (n + 1) k) = needT l k (min n k) ++ (if b = true then [d.name] else []) := fun b hb hlt => by
        rw [Nat.min_eq_left (by omega), Nat.min_eq_left (by omega), needT, hnm, hb]
      have hstay : ¬ n < k → needT l k (min (n + 1) k) = needT l k (min n k) := fun h => by
        rw [Nat.min_eq_right (by omega), Nat.min_eq_right (by omega)]
      obtain ⟨s, ⟨a, bs⟩, ⟨q, name, arg, num, tk, tks, uk, uks, label, place, ks⟩, pl⟩ := d
      simp only at hstep
      generalize isR l k n = b at *
      by_cases hlt : n < k
      · have hltb : decide ((n : Int) < (k : Int)) = true := by simp [hlt]
        replace hstep := hstep b rfl hlt
        conv => whnf
        repeat' first | ((refine ⟨by rw [drows_len]; simp only; omega, fun row hr => ?_⟩; obtain rfl := Option.some.inj (hrow2.symm.trans hr); conv => whnf)) | refine AW.seq ?_ | refine AW.block ?_ | (refine (_root_.id : AW _ _ _ (.region 4 _ true) _ _ → _) ?_; refine AW.draw (id := 4) tab_ok mixed [0, 1, 2, 3, 4, 5] (by kernel_rfl) ?_; conv => whnf) | ((first | refine AW.region tab_ok ?_ | refine AW.cond ?_ | refine AW.skip ?_ | refine AW.ret ?_ | refine AW.exit ?_); conv => whnf) | ((first | refine And.intro (@rfl Val _) ?_ | refine And.intro (by decide) ?_ | refine cs (fun _ => ?_) (fun _ => ?_)) <;> conv => whnf)
        · rename_i hb _
          have e1 : strs (needT l k (min n k)) ++ [[.str s]] = strs (needT l k (min (n + 1) k)) := by rw [hstep, if_pos hb, strs_app]; rfl
          have e2 : (strs (needT l k (min n k))).length + [[DV.str s]].length = (strs (needT l k (min (n + 1) k))).length := by rw [← e1, List.length_append]
          refine ⟨⟨rfl, ?_, ?_⟩, ?_⟩
          · simp only [strs_len, List.length_cons, List.length_nil]; omega
          · simp only [strs_len, List.length_cons, List.length_nil]; omega
          conv => whnf
          repeat' first | refine AW.seq ?_ | refine AW.block ?_ | (refine (_root_.id : AW _ _ _ (.region 4 _ true) _ _ → _) ?_; refine AW.draw (id := 4) tab_ok mixed [0, 1, 2, 3, 4, 5] (by kernel_rfl) ?_; conv => whnf) | ((first | refine AW.region tab_ok ?_ | refine AW.cond ?_ | refine AW.skip ?_ | refine AW.ret ?_ | refine AW.exit ?_); conv => whnf) | ((first | refine And.intro (@rfl Val _) ?_ | refine And.intro (by decide) ?_ | refine cs (fun _ => ?_) (fun _ => ?_)) <;> conv => whnf)
          rw [e2, e1, wrap64 (x := (n : Int) + 1) (by omega) (by omega)]
          exact ⟨⟨n + 1, hnlt⟩, ⟨⟨rfl, rfl, rfl, rfl, rfl, rfl, trivial⟩, rfl, rfl, ⟨[], rfl⟩, rfl⟩, show l.length - (n + 1) < l.length - n by omega⟩
        · rename_i h
          exact absurd (show (bif true then decide ((n : Int) < (k : Int)) else false) = true from hltb) (by rw [h]; decide)
        · rename_i hb
          have e : needT l k (min (n + 1) k) = needT l k (min n k) := by rw [hstep, if_neg (by rw [hb]; decide), List.append_nil]
          rw [wrap64 (x := (n : Int) + 1) (by omega) (by omega)]
          simp only [← e]
          exact ⟨⟨n + 1, hnlt⟩, ⟨⟨rfl, rfl, rfl, rfl, rfl, rfl, trivial⟩, rfl, rfl, ⟨[], rfl⟩, rfl⟩, show l.length - (n + 1) < l.length - n by omega⟩
      · have hltb : decide ((n : Int) < (k : Int)) = false := by simp; omega
        have e := hstay hlt
        conv => whnf
        repeat' first | refine AW.seq ?_ | refine AW.block ?_ | (refine (_root_.id : AW _ _ _ (.region 4 _ true) _ _ → _) ?_; refine AW.draw (id := 4) tab_ok mixed [0, 1, 2, 3, 4, 5] (by kernel_rfl) ?_; conv => whnf) | ((first | refine AW.region tab_ok ?_ | refine AW.cond ?_ | refine AW.skip ?_ | refine AW.ret ?_ | refine AW.exit ?_); conv => whnf) | ((first | refine And.intro (@rfl Val _) ?_ | refine And.intro (by decide) ?_ | refine cs (fun _ => ?_) (fun _ => ?_)) <;> conv => whnf)
        · rename_i hb h
          exact absurd (show (bif true then decide ((n : Int) < (k : Int)) else false) = false from hltb) (by rw [h]; decide)
        all_goals
          rw [wrap64 (x := (n : Int) + 1) (by omega) (by omega)]
          simp only [← e]
          exact ⟨⟨n + 1, hnlt⟩, ⟨⟨rfl, rfl, rfl, rfl, rfl, rfl, trivial⟩, rfl, rfl, ⟨[], rfl⟩, rfl⟩, show l.length - (n + 1) < l.length - n by omega⟩
    · rename_i h
      have := of_decide_eq_false h
      simp only [hBl] at this
      obtain rfl : n = l.length := by omega
      have e3 : needT l k k = needT l k (min l.length k) := by rw [Nat.min_eq_right (by omega)]
      rw [e3]
      refine ⟨rfl, ?_⟩
      conv => whnf
      exact ⟨rfl, rfl⟩
  · have hN : needsN l name = [] := if_neg hz
    rw [hN]
    have hz' : ¬ (soundF l name).2.1 = 0 := hz
    rw [errV, if_neg hz'] at c1
    have e : needsE l name = (soundF l name).2.1 := rfl
    rw [e]
    clear hz hN e
    generalize soundF l name = F at *
    obtain ⟨k, c, a, w⟩ := F
    simp only at c1 hz' ⊢
    have hc := as_call [.int .i64 c, .int .i64 a, .str w]
    refine ACall.body tab_ok (ρ := 0) (N := 50) Tryd.func6 rfl rfl rfl rfl rfl ?_
    repeat' first | refine AW.seq ?_ | refine AW.block ?_ | (refine (_root_.id : AW _ _ _ (.region 4 _ true) _ _ → _) ?_; refine AW.draw (id := 4) tab_ok mixed [0, 1, 2, 3, 4, 5] (by kernel_rfl) ?_; conv => whnf) | ((first | refine AW.region tab_ok ?_ | refine AW.cond ?_ | refine AW.skip ?_ | refine AW.ret ?_ | refine AW.exit ?_); conv => whnf) | ((first | refine (c1).mono ?_ | refine (hc).mono ?_); rintro _ _ ⟨rfl, rfl⟩; conv => whnf) | ((first | refine And.intro (@rfl Val _) ?_ | refine And.intro (by decide) ?_ | refine cs (fun _ => ?_) (fun _ => ?_)) <;> conv => whnf)
    exact ⟨rfl, rfl⟩
end Go.Proofs.YthmbncehoblgpaaDoor.E

/- Plain laws: parts of a term that is one. No conditions. -/
set_option linter.unusedVariables false
set_option linter.unusedSimpArgs false
namespace Go.Proofs.YthmbncehoblgpaaDoor.E
open Go

theorem equal_refl (a : Ty) : equalF a a = true := by
  induction a using Ty.ind with
  | _ k ks ih =>
  have : equalL ks ks = true := (equalL_all ks ks rfl).2 fun j x y hx hy => by
    rw [hx] at hy; cases hy; exact ih x (List.mem_of_getElem? hx)
  simp [equalF, this]
theorem sameS_self {a : Ty} (h : tcheck a = 0) : sameS a a = true := by simp [sameS, h, equal_refl]
end Go.Proofs.YthmbncehoblgpaaDoor.E

/- A value put for a name: the model; what hides a name, a kid changed, both. No conditions. -/
set_option linter.unusedVariables false
set_option linter.unusedSimpArgs false
namespace Go.Proofs.YthmbncehoblgpaaDoor.E
open Go

structure UpN (n : Nat) where
  i : Nat
  hi : i ≤ n
end Go.Proofs.YthmbncehoblgpaaDoor.E

/- A value put for a name: the document's walk; whether a term fits; copies. No conditions. -/
set_option linter.unusedVariables false
set_option linter.unusedSimpArgs false
namespace Go.Proofs.YthmbncehoblgpaaDoor.E
open Go

end Go.Proofs.YthmbncehoblgpaaDoor.E

/- A value put for a name: copies of types, of terms. No conditions. -/
set_option linter.unusedVariables false
set_option linter.unusedSimpArgs false
namespace Go.Proofs.YthmbncehoblgpaaDoor.E
open Go

theorem rows_map' : ∀ ks : List Ty, Ty.rows ks = ks.map Ty.cells
  | [] => rfl
  | t :: l => by simp [Ty.rows, rows_map' l]
/-- Rows of types that the machine can hold. -/
inductive TyOk : Ty → Prop where
  | node {k ks} (h1 : ks.length * 32 ≤ 140737488355328) (h2 : ∀ t ∈ ks, TyOk t) : TyOk (.node k ks)
/-- A term whose types are bounded, in all its parts, those that do not count too. -/
inductive Fine2 : Tm → Prop where
  | node {k name arg num tk tks uk uks label place ks} (h1 : TyOk (.node tk tks)) (h2 : TyOk (.node uk uks)) (h3 : ks.length ≤ 8192) (h4 : ∀ t ∈ ks, Fine2 t) : Fine2 (.node k name arg num tk tks uk uks label place ks)
/-- Rows of terms that the machine can hold. -/
inductive TmOk : Tm → Prop where
  | node {k name arg num tk tks uk uks label place ks} (h1 : TyOk (.node tk tks)) (h2 : TyOk (.node uk uks)) (h3 : ks.length * 152 ≤ 140737488355328) (h4 : ∀ t ∈ ks, TmOk t) : TmOk (.node k name arg num tk tks uk uks label place ks)
theorem fine2_of (t : Tm) : TmOk t → tmright t = true → Fine2 t := by
  induction t using Tm.ind with
  | _ k name arg num tk tks uk uks label place ks ih =>
  rintro (⟨h1, h2, h3, h4⟩) hr
  have hl := tmright_len hr
  have hk := kidsK_le k
  exact .node h1 h2 (by omega) fun x hx => ih x hx (h4 x hx) (tmright_kid hr hx)
end Go.Proofs.YthmbncehoblgpaaDoor.E

/- Walks: defs.kind, defs.copied (printed by mk41.py). No conditions. -/
set_option linter.unusedVariables false
set_option linter.unusedSimpArgs false
namespace Go.Proofs.YthmbncehoblgpaaDoor.E
open Go

set_option maxRecDepth 10000 in
theorem dkind_call (a : Ty) : TyOk a → ACall Tryd.prog 33 [a.val] [] (fun o σ => o = .ret a.val ∧ σ = []) := by
  induction a using Ty.ind with
  | _ k ks ih =>
  rintro (⟨hle, ha⟩)
  refine ACall.body tab_ok (ρ := 0) (N := 25) Tryd.func33 rfl rfl rfl rfl rfl ?_
  repeat' first | refine AW.seq ?_ | refine AW.block ?_ | (refine (_root_.id : AW _ _ _ (.region 5 _ true) _ _ → _) ?_; refine AW.draw (id := 5) tab_ok mixed [0, 1, 2, 3, 4, 5, 6, 7] (by kernel_rfl) ?_; conv => whnf) | ((first | refine AW.region tab_ok ?_ | refine AW.cond ?_ | refine AW.skip ?_ | refine AW.ret ?_ | refine AW.exit ?_); conv => whnf) | ((first | refine And.intro (@rfl Val _) ?_ | refine And.intro (by decide) ?_ | refine cs (fun _ => ?_) (fun _ => ?_)) <;> conv => whnf)
  refine AW.ghost 26 2 2 1 (by decide) rfl rfl ?_
  refine AW.loop (ι := UpTo ks) (fun x => ⟨25, [(12, .c (.d (.int .i64 x.i))), (11, .c (.d (.int .i64 (Ty.rows ks).length))), (10, .c (.d (.sl 0 2 (Ty.rows ks)))), (2, .c (.ptr 1 0)), (3, .c (.ptr 2 0))],
      [.var [.d (.int .i8 k), .d (.sl 0 2 (Ty.rows ks))], .var [.d (.int .i8 0), .d .nils], .var [.d (.int .i8 k), .own 3 (Ty.rows (ks.take x.i)).length], .row 26 2 (Ty.rows (ks.take x.i))], []⟩)
    (fun x => ks.length - x.i) ⟨0, Nat.zero_le _⟩ 4 (fun _ => rfl) (Nat.le_of_ble_eq_true rfl) ⟨⟨rfl, rfl, rfl, rfl, rfl, trivial⟩, rfl, rfl, ⟨[], rfl⟩, rfl⟩ (fun x => ?_)
  obtain ⟨i, hi⟩ := x
  repeat' first | refine AW.seq ?_ | refine AW.block ?_ | (refine (_root_.id : AW _ _ _ (.region 5 _ true) _ _ → _) ?_; refine AW.draw (id := 5) tab_ok mixed [0, 1, 2, 3, 4, 5, 6, 7] (by kernel_rfl) ?_; conv => whnf) | ((first | refine AW.region tab_ok ?_ | refine AW.cond ?_ | refine AW.skip ?_ | refine AW.ret ?_ | refine AW.exit ?_); conv => whnf) | ((first | refine And.intro (@rfl Val _) ?_ | refine And.intro (by decide) ?_ | refine cs (fun _ => ?_) (fun _ => ?_)) <;> conv => whnf)
  · rename_i h1
    simp only [rows_length] at h1
    have := of_decide_eq_true h1
    refine ⟨by simp only [rows_length]; omega, fun row hrow => ?_⟩
    obtain ⟨x, ht, rfl⟩ := rows_get ks i row (by simpa using hrow)
    have hlt : i < ks.length := (List.getElem?_eq_some_iff.1 ht).1
    have hm := List.mem_of_getElem? ht
    have hc := ih x hm (ha x hm)
    have hmt : ks.take (i + 1) = ks.take i ++ [x] := by
      rw [List.take_add_one, ht]; rfl
    obtain ⟨km, kms⟩ := x
    conv => whnf
    repeat' first | refine AW.seq ?_ | refine AW.block ?_ | (refine (_root_.id : AW _ _ _ (.region 5 _ true) _ _ → _) ?_; refine AW.draw (id := 5) tab_ok mixed [0, 1, 2, 3, 4, 5, 6, 7] (by kernel_rfl) ?_; conv => whnf) | ((first | refine AW.region tab_ok ?_ | refine AW.cond ?_ | refine AW.skip ?_ | refine AW.ret ?_ | refine AW.exit ?_); conv => whnf) | (refine (hc).mono ?_; rintro _ _ ⟨rfl, rfl⟩; conv => whnf) | ((first | refine And.intro (@rfl Val _) ?_ | refine And.intro (by decide) ?_ | refine cs (fun _ => ?_) (fun _ => ?_)) <;> conv => whnf)
    refine ⟨⟨rfl, ?_, ?_⟩, ?_⟩
    · simp only [rows_length, List.length_take, List.length_cons, List.length_nil]
      omega
    · simp only [rows_length, List.length_take, List.length_cons, List.length_nil]
      omega
    conv => whnf
    repeat' first | refine AW.seq ?_ | refine AW.block ?_ | (refine (_root_.id : AW _ _ _ (.region 5 _ true) _ _ → _) ?_; refine AW.draw (id := 5) tab_ok mixed [0, 1, 2, 3, 4, 5, 6, 7] (by kernel_rfl) ?_; conv => whnf) | ((first | refine AW.region tab_ok ?_ | refine AW.cond ?_ | refine AW.skip ?_ | refine AW.ret ?_ | refine AW.exit ?_); conv => whnf) | ((first | refine And.intro (@rfl Val _) ?_ | refine And.intro (by decide) ?_ | refine cs (fun _ => ?_) (fun _ => ?_)) <;> conv => whnf)
    have e : Ty.rows (ks.take i) ++ [[.int .i8 km, .sl 0 2 (Ty.rows kms)]] = Ty.rows (ks.take (i + 1)) := by
      rw [hmt, rows_map' (ks.take i), rows_map' (ks.take i ++ _), List.map_append]; rfl
    have el : (Ty.rows (ks.take i)).length + [[DV.int .i8 km, .sl 0 2 (Ty.rows kms)]].length = (Ty.rows (ks.take (i + 1))).length := by
      rw [← List.length_append, e]
    rw [el, e, wrap64 (x := (i : Int) + 1) (by omega) (by omega)]
    exact ⟨⟨i + 1, hlt⟩, ⟨⟨rfl, rfl, rfl, rfl, rfl, trivial⟩, rfl, rfl, ⟨[_], rfl⟩, rfl⟩, show ks.length - (i + 1) < ks.length - i by omega⟩
  · rename_i h1
    simp only [rows_length] at h1
    have := of_decide_eq_false h1
    obtain rfl : i = ks.length := by omega
    have e : ks.take ks.length = ks := List.take_of_length_le (by omega)
    simp only [e]
    first | refine ⟨trivial, ?_⟩ | refine ⟨rfl, ?_⟩ | skip
    conv => whnf
    first | exact ⟨rfl, rfl⟩ | exact ⟨rfl, trivial⟩ | (simp; rfl)

set_option maxRecDepth 10000 in
theorem dcopied_call (t : Tm) : Fine2 t → ACall Tryd.prog 14 [t.val] [] (fun o σ => o = .ret t.val ∧ σ = []) := by
  induction t using Tm.ind with
  | _ k nm arg num tk tks uk uks label place ks ih =>
  rintro (⟨h1, h2, h3, h4⟩)
  have c1 := dkind_call _ h1
  have c2 := dkind_call _ h2
  refine ACall.body tab_ok (ρ := 0) (N := 32) Tryd.func14 rfl rfl rfl rfl rfl ?_
  repeat' first | refine AW.seq ?_ | refine AW.block ?_ | (refine (_root_.id : AW _ _ _ (.region 1 _ true) _ _ → _) ?_; refine AW.draw (id := 1) tab_ok mixed [0, 1, 3, 4, 2, 6, 5, 7, 8, 9] (by kernel_rfl) ?_; conv => whnf) | (refine (_root_.id : AW _ _ _ (.region 7 _ true) _ _ → _) ?_; refine AW.draw (id := 7) tab_ok mixed [0, 1, 2, 3, 4, 5, 6, 7] (by kernel_rfl) ?_; conv => whnf) | ((first | refine AW.region tab_ok ?_ | refine AW.cond ?_ | refine AW.skip ?_ | refine AW.ret ?_ | refine AW.exit ?_); conv => whnf) | ((first | refine (c1).mono ?_ | refine (c2).mono ?_); rintro _ _ ⟨rfl, rfl⟩; conv => whnf) | ((first | refine And.intro (@rfl Val _) ?_ | refine And.intro (by decide) ?_ | refine cs (fun _ => ?_) (fun _ => ?_)) <;> conv => whnf)
  refine AW.ghost 29 11 0 10 (by decide) rfl rfl ?_
  refine AW.loop (ι := UpN ks.length) (fun x => ⟨32, [(19, .c (.d (.int .i64 x.i))), (18, .c (.d (.int .i64 (Tm.rows ks).length))), (17, .c (.d (.sl 0 11 (Tm.rows ks)))), (1, .c (.ptr 0 0)), (2, .c (.ptr 1 0))],
      [.var [.d (.int .i8 k), .d (.str nm), .d (.str arg), .d (.int .i64 num), .d (.int .i8 tk), .d (.sl 0 2 (Ty.rows tks)), .d (.int .i8 uk), .d (.sl 0 2 (Ty.rows uks)), .d (.int .i64 label), .d (.int .i64 place), .own 2 (Tm.rows (ks.take x.i)).length],
       .var [.d (.int .i8 0), .d (.str ⟨#[]⟩), .d (.str ⟨#[]⟩), .d (.int .i64 0), .d (.int .i8 0), .d .nils, .d (.int .i8 0), .d .nils, .d (.int .i64 0), .d (.int .i64 0), .d .nils],
       .row 29 11 (Tm.rows (ks.take x.i))], []⟩)
    (fun x => ks.length - x.i) ⟨0, Nat.zero_le _⟩ 3 (fun _ => rfl) (Nat.le_of_ble_eq_true rfl) ⟨⟨rfl, rfl, rfl, rfl, rfl, trivial⟩, rfl, rfl, ⟨[], rfl⟩, rfl⟩ (fun x => ?_)
  obtain ⟨i, hi⟩ := x
  repeat' first | refine AW.seq ?_ | refine AW.block ?_ | (refine (_root_.id : AW _ _ _ (.region 1 _ true) _ _ → _) ?_; refine AW.draw (id := 1) tab_ok mixed [0, 1, 3, 4, 2, 6, 5, 7, 8, 9] (by kernel_rfl) ?_; conv => whnf) | (refine (_root_.id : AW _ _ _ (.region 7 _ true) _ _ → _) ?_; refine AW.draw (id := 7) tab_ok mixed [0, 1, 2, 3, 4, 5, 6, 7] (by kernel_rfl) ?_; conv => whnf) | ((first | refine AW.region tab_ok ?_ | refine AW.cond ?_ | refine AW.skip ?_ | refine AW.ret ?_ | refine AW.exit ?_); conv => whnf) | ((first | refine And.intro (@rfl Val _) ?_ | refine And.intro (by decide) ?_ | refine cs (fun _ => ?_) (fun _ => ?_)) <;> conv => whnf)
  · rename_i g1
    simp only [trows_length] at g1
    have g1 := of_decide_eq_true g1
    have hlt : i < ks.length := by omega
    refine ⟨by simp only [trows_length]; omega, fun row hrow => ?_⟩
    obtain ⟨x, ht, rfl⟩ := trows_get ks i row (by simpa using hrow)
    have hm := List.mem_of_getElem? ht
    have hc := ih x hm (h4 x hm)
    have hmt : ks.take (i + 1) = ks.take i ++ [x] := by
      rw [List.take_add_one, ht]; rfl
    have e : Tm.rows (ks.take i) ++ [x.cells] = Tm.rows (ks.take (i + 1)) := by
      rw [hmt, trows_map (ks.take i), trows_map (ks.take i ++ _), List.map_append]; rfl
    have el : (Tm.rows (ks.take i)).length + [x.cells].length = (Tm.rows (ks.take (i + 1))).length := by
      rw [← List.length_append, e]
    clear hmt ht hrow hm
    obtain ⟨kx, namex, argx, numx, tkx, tksx, ukx, uksx, labelx, placex, ksx⟩ := x
    conv => whnf
    repeat' first | refine AW.seq ?_ | refine AW.block ?_ | (refine (_root_.id : AW _ _ _ (.region 1 _ true) _ _ → _) ?_; refine AW.draw (id := 1) tab_ok mixed [0, 1, 3, 4, 2, 6, 5, 7, 8, 9] (by kernel_rfl) ?_; conv => whnf) | (refine (_root_.id : AW _ _ _ (.region 7 _ true) _ _ → _) ?_; refine AW.draw (id := 7) tab_ok mixed [0, 1, 2, 3, 4, 5, 6, 7] (by kernel_rfl) ?_; conv => whnf) | ((first | refine AW.region tab_ok ?_ | refine AW.cond ?_ | refine AW.skip ?_ | refine AW.ret ?_ | refine AW.exit ?_); conv => whnf) | (refine (hc).mono ?_; rintro _ _ ⟨rfl, rfl⟩; conv => whnf) | ((first | refine And.intro (@rfl Val _) ?_ | refine And.intro (by decide) ?_ | refine cs (fun _ => ?_) (fun _ => ?_)) <;> conv => whnf)
    refine ⟨⟨rfl, ?_, ?_⟩, ?_⟩
    · simp only [trows_length, List.length_take, List.length_cons, List.length_nil]
      omega
    · simp only [trows_length, List.length_take, List.length_cons, List.length_nil]
      omega
    conv => whnf
    repeat' first | refine AW.seq ?_ | refine AW.block ?_ | (refine (_root_.id : AW _ _ _ (.region 1 _ true) _ _ → _) ?_; refine AW.draw (id := 1) tab_ok mixed [0, 1, 3, 4, 2, 6, 5, 7, 8, 9] (by kernel_rfl) ?_; conv => whnf) | (refine (_root_.id : AW _ _ _ (.region 7 _ true) _ _ → _) ?_; refine AW.draw (id := 7) tab_ok mixed [0, 1, 2, 3, 4, 5, 6, 7] (by kernel_rfl) ?_; conv => whnf) | ((first | refine AW.region tab_ok ?_ | refine AW.cond ?_ | refine AW.skip ?_ | refine AW.ret ?_ | refine AW.exit ?_); conv => whnf) | ((first | refine And.intro (@rfl Val _) ?_ | refine And.intro (by decide) ?_ | refine cs (fun _ => ?_) (fun _ => ?_)) <;> conv => whnf)
    simp only [Tm.cells] at e el
    rw [el, e, wrap64 (x := (i : Int) + 1) (by omega) (by omega)]
    exact ⟨⟨i + 1, hlt⟩, ⟨⟨rfl, rfl, rfl, rfl, rfl, trivial⟩, rfl, rfl, ⟨[_], rfl⟩, rfl⟩, show ks.length - (i + 1) < ks.length - i by omega⟩
  · rename_i g1
    simp only [trows_length] at g1
    have g1 := of_decide_eq_false g1
    obtain rfl : i = ks.length := by omega
    have e : ks.take ks.length = ks := List.take_of_length_le (by omega)
    simp only [e]
    first | refine ⟨trivial, ?_⟩ | refine ⟨rfl, ?_⟩ | skip
    conv => whnf
    first | exact ⟨rfl, rfl⟩ | exact ⟨rfl, trivial⟩ | (simp; rfl)
end Go.Proofs.YthmbncehoblgpaaDoor.E
