/- Texts, merged: Pp9, As, As2, Kw4, Pl6. No conditions. -/
import Derived.Test.YtmaokphbfjpodaaDoorGenX11
import Derived.Test.YtmaokphbfjpodaaDoorGenX12
import Derived.Test.YtmaokphbfjpodaaDoorGenX5
import Derived.Test.YtmaokphbfjpodaaDoorTab
import Derived.WalkKit
import Derived.LaidEql
import Derived.Stop.Asserts
import Derived.RowKitTokens
import Derived.Test.YtmaokphbfjpodaaDoorEngX3
import Derived.Below
import Derived.OneCell
import Derived.Test.YtmaokphbfjpodaaDoorGenX4
import Derived.Test.YtmaokphbfjpodaaDoorGenX8
/- Walks: parse.Term. No conditions. -/
set_option linter.unusedVariables false
set_option linter.unusedSimpArgs false
namespace Go.Proofs.YtmaokphbfjpodaaDoor.E
open Go
def oTPp9_7_9 : OT := (.op 0 (.op 1 (.op 2 (.op 3 (.op 4 (.op 5 (.alt (.op 6 (.alt (.op 7 (.op 8 (.op 9 .nil))) (.op 8 (.op 7 (.op 9 .nil))))) (.op 8 (.op 6 (.op 7 (.op 9 .nil)))))))))))

/-- What parse.Term tells. -/
def termO (s : ByteArray) : Out := match readF s with
  | .error (e, a, w) => .ret (.tup [tmZ.val, .c (.d (faultI e a w))])
  | .ok t => .ret (.tup [t.val, .c (.d .nili)])
set_option maxRecDepth 10000 in
set_option maxHeartbeats 2000000 in
theorem parseTerm_call (s : ByteArray) : ACall Tryd.prog 7 [.c (.d (.str s))] [] (fun o σ => o = termO s ∧ σ = []) := by
  have A := all_call s
  unfold termO
  cases hs : scanF s with
  | error x =>
    obtain ⟨e, a, w⟩ := x
    have hR : readF s = .error (e, a, w) := by unfold readF; rw [hs]
    rw [hR]
    have A : ACall Tryd.prog 6 [.c (.d (.str s))] [] (fun o σ => o = .ret (.tup [.c (.d (.sl 0 4 [])), .c (.d (faultI e a w))]) ∧ σ = []) := A.mono fun o σ h => by unfold allR at h; rw [hs] at h; exact h
    refine ACall.body tab_ok (ρ := 0) (N := 44) Tryd.func7 rfl rfl rfl rfl rfl ?_
    repeat' first | refine AW.seq ?_ | refine AW.block ?_ | (refine (_root_.id : AW _ _ _ (.region 9 _ true) _ _ → _) ?_; refine AW.drawT (id := 9) tab_ok mixed [0, 1, 2, 3, 4, 5, 6, 7, 8, 9] oTPp9_7_9 (by kernel_rfl) ?_; conv => whnf) | (refine Fork.mk ?_ ?_ <;> conv => whnf) | ((first | refine AW.region tab_ok ?_ | refine AW.cond ?_ | refine AW.skip ?_ | refine AW.ret ?_ | refine AW.exit ?_); conv => whnf) | (refine (A).mono ?_; rintro _ _ ⟨rfl, rfl⟩; conv => whnf) | ((first | refine And.intro (@rfl Val _) ?_ | refine And.intro (by decide) ?_ | refine cs (fun _ => ?_) (fun _ => ?_)) <;> conv => whnf)
    all_goals first | exact ⟨rfl, rfl⟩
  | ok l =>
    have A : ACall Tryd.prog 6 [.c (.d (.str s))] [] (fun o σ => o = .ret (.tup [.c (.d (.sl 0 4 (wrows l))), .c (.d .nili)]) ∧ σ = []) := A.mono fun o σ h => by unfold allR at h; rw [hs] at h; exact h
    obtain ⟨hz, ws, hl, hlen, _⟩ := scanF_ok hs
    have hE : EndW l ws.length := ⟨⟨0, s0, 0, s.size⟩, by rw [hl]; simp, rfl⟩
    have hll : l.length = ws.length + 1 := by rw [hl]; simp
    have W := words_call l (by omega)
    have hB := wordsP_bd hE
    unfold wordsR at W
    cases hw : wordsP l with
    | bad e a w =>
      have W : ACall Tryd.prog 14 [.c (.d (.sl 0 4 (wrows l))), .c (.d (.int .i64 0))] [] (fun o σ => o = .ret (.tup [tmZ.val, .c (.d (.int .i64 0)), .c (.d (faultI e a w))]) ∧ σ = []) := W.mono fun o σ h => by
        rw [hw] at h
        rcases h with ⟨t, j, h, _⟩ | ⟨e', x', w', h, h2⟩
        · cases h
        · cases h; exact h2
      have hR : readF s = .error (e, a, w) := by unfold readF; rw [hs]; simp only; rw [hw]
      rw [hR]
      refine ACall.body tab_ok (ρ := 0) (N := 44) Tryd.func7 rfl rfl rfl rfl rfl ?_
      repeat' first | refine AW.seq ?_ | refine AW.block ?_ | (refine (_root_.id : AW _ _ _ (.region 9 _ true) _ _ → _) ?_; refine AW.drawT (id := 9) tab_ok mixed [0, 1, 2, 3, 4, 5, 6, 7, 8, 9] oTPp9_7_9 (by kernel_rfl) ?_; conv => whnf) | (refine Fork.mk ?_ ?_ <;> conv => whnf) | ((first | refine AW.region tab_ok ?_ | refine AW.cond ?_ | refine AW.skip ?_ | refine AW.ret ?_ | refine AW.exit ?_); conv => whnf) | ((first | refine (A).mono ?_ | refine (W).mono ?_); rintro _ _ ⟨rfl, rfl⟩; conv => whnf) | ((first | refine And.intro (@rfl Val _) ?_ | refine And.intro (by decide) ?_ | refine cs (fun _ => ?_) (fun _ => ?_)) <;> conv => whnf)
      all_goals first | exact ⟨rfl, rfl⟩
    | ok t j =>
      have W : ACall Tryd.prog 14 [.c (.d (.sl 0 4 (wrows l))), .c (.d (.int .i64 0))] [] (fun o σ => o = .ret (.tup [t.val, .c (.d (.int .i64 j)), .c (.d .nili)]) ∧ σ = []) := W.mono fun o σ h => by
        rw [hw] at h
        rcases h with ⟨t', j', h, _, _, h2⟩ | ⟨e', x', w', h, h2⟩
        · cases h; exact h2
        · cases h
      have hj := hB t j hw
      obtain ⟨w, hwj⟩ : ∃ w, l[j]? = some w := ⟨_, List.getElem?_eq_getElem (by omega)⟩
      have hrow : (wrows l)[j]? = some w.cells := by simp [wrows, hwj]
      obtain ⟨k, nm, ag, nu, tk, tks, uk, uks, lb, pl, ks⟩ := t
      obtain ⟨wk, wt, wn, wp⟩ := w
      have hR : readF s = if wk = 0 then .ok (.node k nm ag nu tk tks uk uks lb pl ks) else .error (40, wp, wt) := by unfold readF; rw [hs]; simp only; rw [hw]; simp only; rw [hwj]
      rw [hR]
      refine ACall.body tab_ok (ρ := 0) (N := 44) Tryd.func7 rfl rfl rfl rfl rfl ?_
      repeat' first | refine AW.seq ?_ | refine AW.block ?_ | (refine (_root_.id : AW _ _ _ (.region 9 _ true) _ _ → _) ?_; refine AW.drawT (id := 9) tab_ok mixed [0, 1, 2, 3, 4, 5, 6, 7, 8, 9] oTPp9_7_9 (by kernel_rfl) ?_; conv => whnf) | (refine Fork.mk ?_ ?_ <;> conv => whnf) | ((first | refine AW.region tab_ok ?_ | refine AW.cond ?_ | refine AW.skip ?_ | refine AW.ret ?_ | refine AW.exit ?_); conv => whnf) | ((first | refine (A).mono ?_ | refine (W).mono ?_); rintro _ _ ⟨rfl, rfl⟩; conv => whnf) | ((first | refine And.intro (@rfl Val _) ?_ | refine And.intro (by decide) ?_ | refine cs (fun _ => ?_) (fun _ => ?_)) <;> conv => whnf)
      refine ⟨⟨by omega, by rw [wrows_len]; omega⟩, fun row hr => ?_⟩
      obtain rfl := Option.some.inj (hrow.symm.trans (by simpa using hr))
      conv => whnf
      repeat' first | refine AW.seq ?_ | refine AW.block ?_ | (refine (_root_.id : AW _ _ _ (.region 9 _ true) _ _ → _) ?_; refine AW.drawT (id := 9) tab_ok mixed [0, 1, 2, 3, 4, 5, 6, 7, 8, 9] oTPp9_7_9 (by kernel_rfl) ?_; conv => whnf) | (refine Fork.mk ?_ ?_ <;> conv => whnf) | ((first | refine AW.region tab_ok ?_ | refine AW.cond ?_ | refine AW.skip ?_ | refine AW.ret ?_ | refine AW.exit ?_); conv => whnf) | ((first | refine (A).mono ?_ | refine (W).mono ?_); rintro _ _ ⟨rfl, rfl⟩; conv => whnf) | ((first | refine And.intro (@rfl Val _) ?_ | refine And.intro (by decide) ?_ | refine cs (fun _ => ?_) (fun _ => ?_)) <;> conv => whnf)
      all_goals
        rename_i hk
        first
          | (have hk : ¬ wk = 0 := by simpa using hk
             simp only [if_neg hk]
             exact ⟨rfl, rfl⟩)
          | (have hk : wk = 0 := by simpa using hk
             simp only [if_pos hk]
             exact ⟨rfl, rfl⟩)
         
end Go.Proofs.YtmaokphbfjpodaaDoor.E

/- errors.As at a target of type **api.Fault, errors.Is at a number: Go's own texts walked. No conditions. -/
set_option linter.unusedVariables false
set_option linter.unusedSimpArgs false
namespace Go.Proofs.YtmaokphbfjpodaaDoor.E
open Go Go.RowKit Go.Extern.Stop Go.Stop Go.Extern

/-! ### CLOSED FACTS ON THE MODEL's ENTRIES FOR internal/reflectlite, at this program's types: 25: *p.E · 27: **p.E · 23: error · 45: reflectlite's rtype · 1: how many package-level variables the dump has -/
theorem as_valueOf27 (t : Addr) (w : World) : (ReflectliteValue.unpack (.iface 64 (.pointer (some t)))).run Tryd.prog w
    = .ok (.agg #[.pointer (some ⟨5, 64, none⟩), .pointer (some ⟨w.heap.size, 0, none⟩), .int .u64 150]) (w.alloc (.cells #[.pointer (some t)] 64)) := by kernel_rfl
theorem as_type27 (a : Addr) (w : World) : (ReflectliteValue.methodAny (ReflectliteValue.valueError "reflectlite.Value.Type" 0) (fun t _ _ _ => ReflectliteType.toType t) #[.agg #[.pointer (some ⟨5, 64, none⟩), .pointer (some a), .int .u64 150]]).run Tryd.prog w
    = .ok (.iface 129 (.agg #[.pointer (some ⟨5, 64, none⟩)])) w := by kernel_rfl
theorem as_methodKind (h : Value) (w : World) : (Go.method 316 129 (.agg #[h]) "Kind").run Tryd.prog w = .ok (128, h) w := by kernel_rfl
theorem as_kind27 (w : World) : ((ReflectliteType.abiMethod fun t => (fun a : Nat => Value.int IntKind.u8 (a : Int)) <$> Rtype.kind t) #[.pointer (some ⟨5, 64, none⟩)]).run Tryd.prog w = .ok (.int .u8 22) w := by kernel_rfl
theorem as_kind25 (w : World) : ((ReflectliteType.abiMethod fun t => (fun a : Nat => Value.int IntKind.u8 (a : Int)) <$> Rtype.kind t) #[.pointer (some ⟨5, 51, none⟩)]).run Tryd.prog w = .ok (.int .u8 22) w := by kernel_rfl

/-! ### THE ENTRIES THAT READ OR WRITE MEMORY: laws with a premise on the cell (after Derived/Lib/ReflectliteSlice.lean's manner: each unfolding a lemma of its own, by rfl) -/
theorem rlm (z : Sem Value) (f : TypeId → Addr → Nat → Nat → Sem Value) (v : Value) :
    ReflectliteValue.method z f #[v] = (do match ← ReflectliteValue.parts v with | none => z | some (t, a, fl) => f t a fl (fl % 32)) := rfl
theorem as_parts27 (a : Addr) (w : World) : (ReflectliteValue.parts (.agg #[.pointer (some ⟨5, 64, none⟩), .pointer (some a), .int .u64 150])).run Tryd.prog w = .ok (some (64, a, 150)) w := by kernel_rfl
/-- (Value).IsNil at the Value of a **p.E that is not nil. -/
theorem as_isNil27 (a p : Addr) (W : World) (ha : W.cell? a = some (.pointer (some p))) :
    (ReflectliteValue.method (ReflectliteValue.valueError "reflectlite.Value.IsNil" 0) ReflectliteValue.isNil #[.agg #[.pointer (some ⟨5, 64, none⟩), .pointer (some a), .int .u64 150]]).run Tryd.prog W = .ok (.bool false) W := by
  rw [rlm]
  simp only [Sem.run_bind, as_parts27, Result.andThen]
  simp [ReflectliteValue.isNil, loadVar, isAgg, underlying, Tryd.underlying64, ha, Result.andThen]

theorem as_methodElem (h : Value) (w : World) : (Go.method 316 129 (.agg #[h]) "Elem").run Tryd.prog w = .ok (141, .agg #[h]) w := by kernel_rfl
theorem as_methodImplements (h : Value) (w : World) : (Go.method 316 129 (.agg #[h]) "Implements").run Tryd.prog w = .ok (142, .agg #[h]) w := by kernel_rfl
theorem as_methodAssignableTo (h : Value) (w : World) : (Go.method 316 129 (.agg #[h]) "AssignableTo").run Tryd.prog w = .ok (139, .agg #[h]) w := by kernel_rfl
theorem as_elem27 (w : World) : (ReflectliteType.method ReflectliteType.elem #[.agg #[.pointer (some ⟨5, 64, none⟩)]]).run Tryd.prog w = .ok (.iface 129 (.agg #[.pointer (some ⟨5, 51, none⟩)])) w := by kernel_rfl
theorem as_implements25 (w : World) : (ReflectliteType.relation "Implements" ReflectliteType.implements_ #[.agg #[.pointer (some ⟨5, 51, none⟩)], .iface 129 (.agg #[.pointer (some ⟨5, 25, none⟩)])]).run Tryd.prog w = .ok (.bool true) w := by kernel_rfl
theorem as_typeOf25 (v : Value) (w : World) : (ReflectliteType.typeOf #[.iface 51 v]).run Tryd.prog w = .ok (.iface 129 (.agg #[.pointer (some ⟨5, 51, none⟩)])) w := by kernel_rfl
theorem as_assignable25 (w : World) : (ReflectliteType.relation "AssignableTo" ReflectliteType.assignableTo #[.agg #[.pointer (some ⟨5, 51, none⟩)], .iface 129 (.agg #[.pointer (some ⟨5, 51, none⟩)])]).run Tryd.prog w = .ok (.bool true) w := by kernel_rfl
theorem as_valueOf25 (e : Addr) (w : World) : (ReflectliteValue.unpack (.iface 51 (.pointer (some e)))).run Tryd.prog w
    = .ok (.agg #[.pointer (some ⟨5, 51, none⟩), .pointer (some ⟨w.heap.size, 0, none⟩), .int .u64 150]) (w.alloc (.cells #[.pointer (some e)] 51)) := by kernel_rfl

theorem as_elemOf27 (w : World) : (Rtype.elem? 64).run Tryd.prog w = .ok (some 51) w := by kernel_rfl
theorem as_mk25 (p : Addr) (w : World) : (ReflectliteValue.mk 51 p ReflectliteValue.flagAddr).run Tryd.prog w = .ok (.agg #[.pointer (some ⟨5, 51, none⟩), .pointer (some p), .int .u64 406]) w := by kernel_rfl
/-- (Value).Elem at the Value of a **p.E that is not nil: the Value of the *p.E variable that it points to, addressable. -/
theorem as_elemV27 (a p : Addr) (W : World) (ha : W.cell? a = some (.pointer (some p))) :
    (ReflectliteValue.method (ReflectliteValue.valueError "reflectlite.Value.Elem" 0) ReflectliteValue.elem #[.agg #[.pointer (some ⟨5, 64, none⟩), .pointer (some a), .int .u64 150]]).run Tryd.prog W
      = .ok (.agg #[.pointer (some ⟨5, 51, none⟩), .pointer (some p), .int .u64 406]) W := by
  rw [rlm]
  simp only [Sem.run_bind, as_parts27, Result.andThen]
  simp [ReflectliteValue.elem, loadVar, isAgg, underlying, Tryd.underlying64, ha, Result.andThen, as_elemOf27, as_mk25]
theorem rls (v x : Value) : ReflectliteValue.set #[v, x] = (do
    let (some (dst, a, fl), some (src, b, _)) := (← ReflectliteValue.parts v, ← ReflectliteValue.parts x)
      | unsupported (.noEntry "extern/(internal/reflectlite.Value).Set.zeroValue")
    if fl / ReflectliteValue.flagAddr % 2 == 0 then unsupported (.noEntry "extern/(internal/reflectlite.Value).Set.unaddressable")
    let val ← loadVar src b
    if ← Rtype.directlyAssignable dst src then storeVar dst a val
    else if ← Rtype.implements dst src then
      if (← Rtype.kind src) == 20 then
        match val with
        | .nilIface => unsupported (.noEntry "extern/reflectlite: a nil value of one interface type handed on as a value of another")
        | _ => storeVar dst a val
      else storeVar dst a (.iface src val)
    else panicString ("reflectlite.Set: value of type " ++ (← Rtype.spelt src) ++ " is not assignable to type " ++ (← Rtype.spelt dst))
    pure (.tuple #[])) := rfl
theorem as_parts25a (a : Addr) (w : World) : (ReflectliteValue.parts (.agg #[.pointer (some ⟨5, 51, none⟩), .pointer (some a), .int .u64 406])).run Tryd.prog w = .ok (some (51, a, 406)) w := by kernel_rfl
theorem as_parts25 (a : Addr) (w : World) : (ReflectliteValue.parts (.agg #[.pointer (some ⟨5, 51, none⟩), .pointer (some a), .int .u64 150])).run Tryd.prog w = .ok (some (51, a, 150)) w := by kernel_rfl
theorem as_direct25 (w : World) : (Rtype.directlyAssignable 51 51).run Tryd.prog w = .ok true w := by kernel_rfl
/-- (Value).Set: the *p.E variable at 'ta' gets what the Value's own variable 'b' holds. -/
theorem as_set25 (ta b e : Addr) (old : Value) (W : World) (hb : W.cell? b = some (.pointer (some e))) (ht : W.cell? ta = some old) (hf : W.frozen? ta = false) :
    (ReflectliteValue.set #[.agg #[.pointer (some ⟨5, 51, none⟩), .pointer (some ta), .int .u64 406], .agg #[.pointer (some ⟨5, 51, none⟩), .pointer (some b), .int .u64 150]]).run Tryd.prog W
      = .ok (.tuple #[]) (W.setCell ta (.pointer (some e))) := by
  rw [rls]
  simp only [Sem.run_bind, as_parts25a, as_parts25, Result.andThen]
  simp [ReflectliteValue.flagAddr, loadVar, isAgg, underlying, Tryd.underlying51, hb, Result.andThen, as_direct25, storeVar, Value.cells, storeCells, Addr.add]
  rw [run_store Tryd.prog W ta _ _ (by rfl)]
  simp [ht, hf]

set_option maxHeartbeats 4000000 in
theorem as_hit (e t : Addr) (old : Value) (w : World) (hg : w.cell? ⟨0, 0, none⟩ = some (.iface 129 (.agg #[.pointer (some ⟨5, 25, none⟩)]))) (ht0 : w.cell? t = some old) (hf0 : w.frozen? t = false) :
    Calls Tryd.prog 17 #[.iface 51 (.pointer (some e)), .iface 64 (.pointer (some t))] w fun ev w' => ev = .returned (.bool true) ∧ w' = ((((w.alloc (.cells #[.pointer (some t)] 64)).alloc (.cells #[.pointer (some ⟨5, 64, none⟩), .pointer (some ⟨w.heap.size, 0, none⟩), .int .u64 150] 92)).alloc (.cells #[.pointer (some ⟨5, 64, none⟩), .pointer (some ⟨w.heap.size, 0, none⟩), .int .u64 150] 92)).alloc (.cells #[.pointer (some e)] 51)).setCell t (.pointer (some e)) := by
  have h6 := @run_callFunc_extern Tryd.prog 36 _ (fun args => ReflectliteValue.unpack (args.getD 0 (.tuple #[]))) Tryd.func36 (by kernel_rfl) (by kernel_rfl) (by kernel_rfl) (by kernel_rfl)
  have h7 := @run_callFunc_extern Tryd.prog 37 _ (ReflectliteValue.methodAny (ReflectliteValue.valueError "reflectlite.Value.Type" 0) (fun t _ _ _ => ReflectliteType.toType t)) Tryd.func37 (by kernel_rfl) (by kernel_rfl) (by kernel_rfl) (by kernel_rfl)
  have h8 := @run_callFunc_extern Tryd.prog 38 _ (ReflectliteValue.method (ReflectliteValue.valueError "reflectlite.Value.IsNil" 0) ReflectliteValue.isNil) Tryd.func38 (by kernel_rfl) (by kernel_rfl) (by kernel_rfl) (by kernel_rfl)
  have h27 := @run_callFunc_extern Tryd.prog 128 _ (ReflectliteType.abiMethod fun t => do pure (.int .u8 (← Rtype.kind t))) Tryd.func128 (by kernel_rfl) (by kernel_rfl) (by kernel_rfl) (by kernel_rfl)
  have h37 := @run_callFunc_extern Tryd.prog 141 _ (ReflectliteType.method ReflectliteType.elem) Tryd.func141 (by kernel_rfl) (by kernel_rfl) (by kernel_rfl) (by kernel_rfl)
  have h38 := @run_callFunc_extern Tryd.prog 142 _ (ReflectliteType.relation "Implements" ReflectliteType.implements_) Tryd.func142 (by kernel_rfl) (by kernel_rfl) (by kernel_rfl) (by kernel_rfl)
  have h10 := @run_callFunc_extern Tryd.prog 60 _ ReflectliteType.typeOf Tryd.func60 (by kernel_rfl) (by kernel_rfl) (by kernel_rfl) (by kernel_rfl)
  have h35 := @run_callFunc_extern Tryd.prog 139 _ (ReflectliteType.relation "AssignableTo" ReflectliteType.assignableTo) Tryd.func139 (by kernel_rfl) (by kernel_rfl) (by kernel_rfl) (by kernel_rfl)
  have h11 := @run_callFunc_extern Tryd.prog 61 _ (ReflectliteValue.method (ReflectliteValue.valueError "reflectlite.Value.Elem" 0) ReflectliteValue.elem) Tryd.func61 (by kernel_rfl) (by kernel_rfl) (by kernel_rfl) (by kernel_rfl)
  have h12 := @run_callFunc_extern Tryd.prog 62 _ ReflectliteValue.set Tryd.func62 (by kernel_rfl) (by kernel_rfl) (by kernel_rfl) (by kernel_rfl)
  have tO := as_typeOf25
  have mA := as_methodAssignableTo
  have a25 := as_assignable25
  have v25 := as_valueOf25
  have f6 := as_valueOf27
  have f7 := as_type27
  have mK := as_methodKind
  have mE := as_methodElem
  have mI := as_methodImplements
  have k27 := as_kind27
  have k25 := as_kind25
  have e27 := as_elem27
  have i25 := as_implements25
  have n8 := as_isNil27 ⟨w.heap.size, 0, none⟩ t ((w.alloc (.cells #[.pointer (some t)] 64)).alloc (.cells #[.pointer (some ⟨5, 64, none⟩), .pointer (some ⟨w.heap.size, 0, none⟩), .int .u64 150] 92)) (by simp)
  have hlt : 0 < w.heap.size := by
    rcases Nat.eq_zero_or_pos w.heap.size with h0 | h
    · simp [World.cell?, h0] at hg
    · exact h
  have hg2 : ((w.alloc (.cells #[.pointer (some t)] 64)).alloc (.cells #[.pointer (some ⟨5, 64, none⟩), .pointer (some ⟨w.heap.size, 0, none⟩), .int .u64 150] 92)).cell? ⟨0, 0, none⟩ = some (.iface 129 (.agg #[.pointer (some ⟨5, 25, none⟩)])) := by
    rw [World.cell?_alloc_lt _ _ ⟨0, 0, none⟩ (by simp), World.cell?_alloc_lt _ _ ⟨0, 0, none⟩ hlt]; exact hg
  have htl : t.block < w.heap.size := by
    rcases Nat.lt_or_ge t.block w.heap.size with h | h
    · exact h
    · simp [World.cell?, Array.getElem?_eq_none h] at ht0
  have el := as_elemV27 ⟨w.heap.size, 0, none⟩ t (((w.alloc (.cells #[.pointer (some t)] 64)).alloc (.cells #[.pointer (some ⟨5, 64, none⟩), .pointer (some ⟨w.heap.size, 0, none⟩), .int .u64 150] 92)).alloc (.cells #[.pointer (some ⟨5, 64, none⟩), .pointer (some ⟨w.heap.size, 0, none⟩), .int .u64 150] 92)) (by rw [World.cell?_alloc_lt _ _ ⟨w.heap.size, 0, none⟩ (by simp; omega)]; simp)
  have st := as_set25 t ⟨w.heap.size + 1 + 1 + 1, 0, none⟩ e old ((((w.alloc (.cells #[.pointer (some t)] 64)).alloc (.cells #[.pointer (some ⟨5, 64, none⟩), .pointer (some ⟨w.heap.size, 0, none⟩), .int .u64 150] 92)).alloc (.cells #[.pointer (some ⟨5, 64, none⟩), .pointer (some ⟨w.heap.size, 0, none⟩), .int .u64 150] 92)).alloc (.cells #[.pointer (some e)] 51))
    (by rw [World.cell?_alloc_at _ _ _ _ (by simp)]; rfl)
    (by rw [World.cell?_alloc_lt _ _ t (by simp; omega), World.cell?_alloc_lt _ _ t (by simp; omega), World.cell?_alloc_lt _ _ t (by simp; omega), World.cell?_alloc_lt _ _ t htl]; exact ht0)
    (by rw [World.frozen?_alloc_old _ _ t (by simp; omega), World.frozen?_alloc_old _ _ t (by simp; omega), World.frozen?_alloc_old _ _ t (by simp; omega), World.frozen?_alloc_old _ _ t (Nat.ne_of_lt htl)]; exact hf0)
  go_enter Tryd.func17, Tryd.ntmps17
  go_wp2
  refine wp_loop_rounds 1 ?_
  rw [rounds_succ]
  go_wp2
  go_ret
  exact ⟨rfl, rfl⟩
end Go.Proofs.YtmaokphbfjpodaaDoor.E

/- errors.As and errors.Is as calls over the engine's data. No conditions. -/
set_option linter.unusedVariables false
set_option linter.unusedSimpArgs false
namespace Go.Proofs.YtmaokphbfjpodaaDoor.E
open Go Go.RowKit

theorem two_vs {w : World} {C : Cz} {vs : Array Value} {x y : Val} (h : RepVs w C vs.toList [x, y]) : ∃ u v, vs = #[u, v] ∧ RepV w C u x ∧ RepV w C v y := by
  have hl : vs.size = 2 := by have := h.1; simpa using this
  obtain ⟨u, v, rfl⟩ : ∃ u v, vs = #[u, v] := by
    match vs, hl with
    | ⟨[u, v]⟩, _ => exact ⟨u, v, rfl⟩
  exact ⟨u, v, rfl, h.2 0 u x rfl rfl, h.2 1 v y rfl rfl⟩
theorem as_call (cells : List DV) : ACall Tryd.prog 17 [.c (.d (.ifc 51 (.rp 0 cells))), .c (.ifc 64 (.ptr 0 0))] [.var [.d .nilp]]
    (fun o σ => o = .ret (.c (.d (.bool true))) ∧ σ = [.var [.d (.rp 0 cells)]]) where
  out := fun w C vs hI hv => by
    obtain ⟨u, v, rfl, h1, h2⟩ := two_vs hv
    cases repA_d (c_of h1) with
    | ifc _ u _ h1 =>
    cases (c_of h2) with
    | ifc _ v _ h2 =>
    cases h2 with
    | ptr _ _ b en he hr hb =>
    have hrp := h1
    cases h1 with
    | rp _ be oe _ cs e fz vs hrt hh hcell hrep =>
    obtain ⟨k1, b', ca, ty, k2, k3, k4⟩ := hI.ok 0 _ en rfl he
    rw [hb] at k2; cases k2
    obtain ⟨x, rfl⟩ : ∃ x, ca = #[x] := by
      have := k4.1
      match ca, this with
      | ⟨[x]⟩, _ => exact ⟨x, rfl⟩
    have hx := k4.2 0 x _ rfl rfl
    cases repA_d hx
    obtain ⟨hun, hblt⟩ := hI.unrg 0 _ en b rfl rfl he hb
    obtain ⟨_, gt, gf, hgh⟩ := hI.glb 0 _ (by first | exact List.mem_singleton.2 rfl | exact List.mem_cons_self | exact List.mem_cons_of_mem _ List.mem_cons_self)
    have hg : w.cell? ⟨0, 0, none⟩ = some (.iface 129 (.agg #[.pointer (some ⟨5, 25, none⟩)])) := by simp [World.cell?, hgh]
    have hfz : w.frozen? ⟨b, 0, none⟩ = false := by simp [World.frozen?, k3]
    refine (as_hit ⟨be, oe, none⟩ ⟨b, 0, none⟩ (.pointer none) w hg (by simp [World.cell?, k3]) hfz).mono fun e1 w' ⟨g1, g2⟩ => ?_
    subst g1
    generalize hW : (((w.alloc _).alloc _).alloc _).alloc _ = W at g2
    have hWs : W.heap.size = w.heap.size + 4 := by rw [← hW]; simp
    have hWo : ∀ k, k < w.heap.size → W.heap[k]? = w.heap[k]? := fun k hk => by
      rw [← hW, alloc_old _ _ (by simp; omega), alloc_old _ _ (by simp; omega), alloc_old _ _ (by simp; omega), alloc_old _ _ hk]
    have hos : W.os = w.os ∧ W.tape = w.tape ∧ W.output = w.output := by rw [← hW]; exact ⟨rfl, rfl, rfl⟩
    have hs' : w'.heap.size = w.heap.size + 4 := by rw [g2]; simp [hWs]
    have hold : ∀ k, k < w.heap.size → en.b ≠ some k → w'.heap[k]? = w.heap[k]? := fun k hk hne => by
      rw [g2, Below.heap_setCell _ _ _ _ (fun e => hne (by rw [hb, e])), hWo k hk]
    have hnew : w'.heap[b]? = some (.cells #[.pointer (some ⟨be, oe, none⟩)] ty (0, 0)) := by
      rw [g2]
      exact one_setCell (by rw [hWo b hblt]; exact k3)
    obtain ⟨c1, i1⟩ := hI.upd (w' := w') (o' := .var [.d (.rp 0 cells)]) rfl he rfl (by omega) (.refl en) hold (fun b hb => .inl hb) (fun hle => ⟨k1, b, _, ty, hb, hnew, rfl, fun i v x hv hx => by
      match i with
      | 0 => simp at hv hx; subst hv; subst hx; exact .d _ _ (hrp.mono hle.rg)
      | i + 1 => simp at hv⟩)
    have x1 := Ext.upd (w' := w') hI (o' := .var [.d (.rp 0 cells)]) rfl he rfl (by rw [g2]; exact hos.1) (by rw [g2]; exact hos.2.1) (by rw [g2]; exact hos.2.2) (by omega) c1 hold (fun b hb => .inl hb)
    exact ⟨_, _, _, ⟨rfl, rfl⟩, i1, x1, _, rfl, .c _ _ (.d _ _ (.bool _))⟩
end Go.Proofs.YtmaokphbfjpodaaDoor.E

/- Walks: Fault, blanks, wakes (parse). No conditions. -/
set_option linter.unusedVariables false
set_option linter.unusedSimpArgs false
namespace Go.Proofs.YtmaokphbfjpodaaDoor.E
open Go

def fltV (c a : Int) (w : ByteArray) : Val := .agg [.d (.int .i64 c), .d (.int .i64 a), .d (.str w)]
set_option maxRecDepth 10000 in
theorem fault0_call : ACall Tryd.prog 10 [.c (.d .nili)] [] (fun o σ => o = .ret (.tup [fltV 0 0 s0, .c (.d (.bool true))]) ∧ σ = []) := by
  refine ACall.body tab_ok (ρ := 0) (N := 36) Tryd.func10 rfl rfl rfl rfl rfl ?_
  repeat' first | refine AW.seq ?_ | refine AW.block ?_ | (refine (_root_.id : AW _ _ _ (.region 5 _ true) _ _ → _) ?_; refine AW.draw (id := 5) tab_ok mixed [0, 1, 2, 3, 4, 5, 6, 7, 8, 9, 10, 11, 12, 13, 14] (by kernel_rfl) ?_; conv => whnf) | ((first | refine AW.region tab_ok ?_ | refine AW.cond ?_ | refine AW.skip ?_ | refine AW.ret ?_ | refine AW.exit ?_); conv => whnf) | ((first | refine And.intro (@rfl Val _) ?_ | refine And.intro (by decide) ?_ | refine cs (fun _ => ?_) (fun _ => ?_)) <;> conv => whnf)
  all_goals first | exact ⟨rfl, rfl⟩
set_option maxRecDepth 10000 in
theorem fault1_call (c a : Int) (w : ByteArray) (hc : c ≠ 0) : ACall Tryd.prog 10 [.c (.d (faultI c a w))] [] (fun o σ => o = .ret (.tup [fltV c a w, .c (.d (.bool true))]) ∧ σ = []) := by
  have A := as_call [.int .i64 c, .int .i64 a, .str w]
  unfold faultI
  refine ACall.body tab_ok (ρ := 0) (N := 36) Tryd.func10 rfl rfl rfl rfl rfl ?_
  repeat' first | refine AW.seq ?_ | refine AW.block ?_ | (refine (_root_.id : AW _ _ _ (.region 5 _ true) _ _ → _) ?_; refine AW.draw (id := 5) tab_ok mixed [0, 1, 2, 3, 4, 5, 6, 7, 8, 9, 10, 11, 12, 13, 14] (by kernel_rfl) ?_; conv => whnf) | ((first | refine AW.region tab_ok ?_ | refine AW.cond ?_ | refine AW.skip ?_ | refine AW.ret ?_ | refine AW.exit ?_); conv => whnf) | (refine (A).mono ?_; rintro _ _ ⟨rfl, rfl⟩; conv => whnf) | ((first | refine And.intro (@rfl Val _) ?_ | refine And.intro (by decide) ?_ | refine cs (fun _ => ?_) (fun _ => ?_)) <;> conv => whnf)
  all_goals first | exact ⟨rfl, rfl⟩ | (exfalso; simp_all; done)
/-- Blanks of one kind or another. -/
def blL (i : Nat) : List UInt8 := if i % 4 = 0 then [32] else if i % 4 = 1 then [10] else if i % 4 = 2 then [32, 35, 32, 108, 101, 116, 32, 120, 32, 40, 32, 10] else [9, 32, 13]
def blB (i : Nat) : ByteArray := ⟨(blL i).toArray⟩
set_option maxRecDepth 10000 in
theorem blanks_call (i : Nat) : ACall Tryd.prog 8 [.c (.d (.int .i64 i))] [] (fun o σ => o = .ret (.c (.d (.str (blB i)))) ∧ σ = []) := by
  have hm : Int.tmod (i : Int) 4 = ((i % 4 : Nat) : Int) := by rw [Int.tmod_eq_emod_of_nonneg (by omega)]; omega
  refine ACall.body tab_ok (ρ := 0) (N := 11) Tryd.func8 rfl rfl rfl rfl rfl ?_
  repeat' first | refine AW.seq ?_ | refine AW.block ?_ | ((first | refine AW.region tab_ok ?_ | refine AW.cond ?_ | refine AW.skip ?_ | refine AW.ret ?_ | refine AW.exit ?_); conv => whnf) | ((first | refine And.intro (@rfl Val _) ?_ | refine And.intro (by decide) ?_ | refine cs (fun _ => ?_) (fun _ => ?_)) <;> conv => whnf)
  all_goals
    simp only [hm, beq_iff_eq, beq_eq_false_iff_ne, ne_eq] at *
    refine ⟨?_, rfl⟩
    first
      | exact congrArg (fun b => Out.ret (.c (.d (.str b)))) (show (⟨#[32]⟩ : ByteArray) = blB i by unfold blB blL; rw [if_pos (by omega)])
      | exact congrArg (fun b => Out.ret (.c (.d (.str b)))) (show (⟨#[10]⟩ : ByteArray) = blB i by unfold blB blL; rw [if_neg (by omega), if_pos (by omega)])
      | exact congrArg (fun b => Out.ret (.c (.d (.str b)))) (show (⟨#[32, 35, 32, 108, 101, 116, 32, 120, 32, 40, 32, 10]⟩ : ByteArray) = blB i by unfold blB blL; rw [if_neg (by omega), if_neg (by omega), if_pos (by omega)])
      | exact congrArg (fun b => Out.ret (.c (.d (.str b)))) (show (⟨#[9, 32, 13]⟩ : ByteArray) = blB i by unfold blB blL; rw [if_neg (by omega), if_neg (by omega), if_neg (by omega)])
     
def T1 : ByteArray := ⟨#[92, 120, 58, 105, 110, 116, 46, 120, 43, 49]⟩
def T2 : ByteArray := ⟨#[49, 32, 60, 32, 50, 32, 60, 32, 51]⟩
def wk1 : Bool := match readF T1 with
  | .ok (.node k name _ _ tk _ _ _ _ _ [.node k2 _ _ _ _ _ _ _ _ pl2 _]) => decide (k = 4) && decide (name = ⟨#[120]⟩) && decide (tk = 1) && decide (k2 = 15) && decide (pl2 = 8)
  | _ => false
def wk2 : Bool := match readF T2 with
  | .error x => decide (x = (40, 6, ⟨#[60]⟩))
  | _ => false
theorem wk1_ok : wk1 = true := by decide +kernel
theorem wk2_ok : wk2 = true := by decide +kernel
set_option maxRecDepth 10000 in
set_option maxHeartbeats 1000000 in
theorem wakes04_call : ACall Tryd.prog 5 [] [] (fun o σ => o = .ret (.c (.d (.bool true))) ∧ σ = []) := by
  have P := parseTerm_call T1
  have Q := parseTerm_call T2
  have h1 := wk1_ok
  have h2 := wk2_ok
  have F := fault1_call 40 6 ⟨#[60]⟩ (by decide)
  unfold wk1 at h1
  unfold wk2 at h2
  unfold termO at P Q
  split at h1
  · rename_i k nm ag nu tk tks uk uks lb pl k2 nm2 ag2 nu2 tk2 tks2 uk2 uks2 lb2 pl2 ks2 hr
    split at h2
    · rename_i x hr2
      rw [hr] at P
      rw [hr2] at Q
      simp only [Bool.and_eq_true, decide_eq_true_eq] at h1 h2
      obtain ⟨⟨⟨⟨rfl, rfl⟩, rfl⟩, rfl⟩, rfl⟩ := h1
      subst h2
      refine ACall.body tab_ok (ρ := 0) (N := 78) Tryd.func5 rfl rfl rfl rfl rfl ?_
      repeat' first | ((refine And.intro (⟨by decide, by simp [Tm.rows]⟩ : _ ∧ _) ?_; conv => whnf)) | ((intro row hrow; obtain rfl := Option.some.inj hrow; conv => whnf)) | refine AW.seq ?_ | refine AW.block ?_ | ((first | refine AW.region tab_ok ?_ | refine AW.cond ?_ | refine AW.skip ?_ | refine AW.ret ?_ | refine AW.exit ?_); conv => whnf) | ((first | refine (P).mono ?_ | refine (Q).mono ?_ | refine (F).mono ?_); rintro _ _ ⟨rfl, rfl⟩; conv => whnf) | ((first | refine And.intro (@rfl Val _) ?_ | refine And.intro (by decide) ?_ | refine cs (fun _ => ?_) (fun _ => ?_)) <;> conv => whnf)
      all_goals first | exact ⟨rfl, rfl⟩
    · cases h2
  · cases h1
end Go.Proofs.YtmaokphbfjpodaaDoor.E

/- How long a text with other blanks is. No conditions. -/
set_option linter.unusedVariables false
set_option linter.unusedSimpArgs false
namespace Go.Proofs.YtmaokphbfjpodaaDoor.E
open Go

def sumW (ws : List Wd) : Nat := (ws.map fun w => w.text.size).sum
theorem scan_sum : ∀ (n p : Nat) (s : List UInt8) (ws : List Wd), scanL n p s = .ok ws → sumW ws ≤ s.length
  | 0, p, s, ws, h => by cases h; simp [sumW]
  | n + 1, p, s, ws, h => by
    rw [scanL_skip] at h
    have hkl := skipL_le false s
    by_cases hr : s.drop (skipL false s) = []
    · rw [hr, scanL_nil] at h; cases h; simp [sumW]
    · have hag := skipL_again s false
      generalize hq : s.drop (skipL false s) = r at h hr hag
      have hrl : r.length = s.length - skipL false s := by rw [← hq]; simp
      rw [scanL_step n _ r hag hr] at h
      split at h
      · cases h
      · rename_i w hw
        split at h
        · cases h
        · rename_i l' hl
          cases h
          obtain ⟨z1, z2, z3⟩ := wordL_ok hw
          have := scan_sum n _ _ _ hl
          simp only [List.length_drop] at this
          simp only [sumW, List.map_cons, List.sum_cons] at this ⊢
          omega
theorem blL_len (i : Nat) : (blL i).length ≤ 12 := by
  unfold blL
  repeat' split
  all_goals decide
theorem blL_ok : BlOk blL := ⟨fun i s => by
    unfold blL
    repeat' split
    all_goals (simp [skipL]; try omega), fun i => by
    unfold blL
    repeat' split
    · exact ⟨32, [], rfl, .inl rfl⟩
    · exact ⟨10, [], rfl, .inr (.inr (.inl rfl))⟩
    · exact ⟨32, _, rfl, .inl rfl⟩
    · exact ⟨9, _, rfl, .inr (.inl rfl)⟩⟩
theorem spread_len : ∀ (ws : List Wd) (i : Nat), (spread blL i ws).length ≤ sumW ws + 12 * ws.length
  | [], i => Nat.le_refl _
  | w :: ws, i => by
    have h := spread_len ws (i + 1)
    have hb := blL_len i
    have hl : w.text.data.toList.length = w.text.size := rfl
    simp only [spread, List.length_append, hl, sumW, List.map_cons, List.sum_cons, List.length_cons] at h ⊢
    omega
theorem spread_size {s : ByteArray} {l : List Wd} (h : scanF s = .ok l) (hs : s.size ≤ 4096) : (spread blL 0 l).length ≤ 65536 ∧ l.length ≤ 4097 ∧ 1 ≤ l.length := by
  obtain ⟨_, ws, rfl, h1, h2⟩ := scanF_ok h
  have h3 := scan_sum _ _ _ _ h2
  have hl : s.data.toList.length = s.size := rfl
  rw [hl] at h3
  have h4 := spread_len (ws ++ [⟨0, s0, 0, s.size⟩]) 0
  have h5 : sumW (ws ++ [(⟨0, s0, 0, s.size⟩ : Wd)]) = sumW ws := by simp [sumW]; rfl
  rw [h5, List.length_append, List.length_singleton] at h4
  simp only [List.length_append, List.length_singleton]
  omega
end Go.Proofs.YtmaokphbfjpodaaDoor.E
