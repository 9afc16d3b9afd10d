/- The engine, part 14: an operation, a region, on data. No conditions. -/
import Derived.Test.YtdhkopangbgehaaEng13
set_option linter.unusedVariables false
set_option linter.unusedSimpArgs false
namespace Go.Proofs.Ytdhkopangbgehaa.E
open Go

/-! ### Arguments -/
def aArgs (ρ : Nat) : List Val → List PM → List AObj → (List Val → List AObj → Prop) → Prop
  | [], _, σ, K => K [] σ
  | x :: xs, [], σ, K => aArgs ρ xs [] σ (fun ys σ' => K (x :: ys) σ')
  | x :: xs, .ref :: ps, σ, K => aArgs ρ xs ps σ (fun ys σ' => K (x :: ys) σ')
  | x :: xs, .fz n :: ps, σ, K => match x with
    | .c a => frz1 ρ σ a n.head?.join (fun d σ' => aArgs ρ xs ps σ' (fun ys σ'' => K (.c (.d d) :: ys) σ''))
    | .agg cs => frzL ρ σ cs n (fun ds σ' => aArgs ρ xs ps σ' (fun ys σ'' => K (.agg (ds.map .d) :: ys) σ''))
    | _ => False

theorem RepVs.cons {w : World} {C : Cz} {v : Value} {x : Val} {vs : List Value} {xs : List Val} (h : RepV w C v x) (hs : RepVs w C vs xs) : RepVs w C (v :: vs) (x :: xs) :=
  ⟨by simp [hs.1], fun i u y h1 h2 => by
    cases i with
    | zero => simp at h1 h2; subst h1; subst h2; exact h
    | succ i => exact hs.2 i u y (by simpa using h1) (by simpa using h2)⟩
theorem RepVs.mono {w w' : World} {C C' : Cz} (H : CzLe w C w' C') {vs : List Value} {xs : List Val} (h : RepVs w C vs xs) : RepVs w' C' vs xs := ⟨h.1, fun i v x h1 h2 => (h.2 i v x h1 h2).mono H⟩
theorem RepVs.tail {w : World} {C : Cz} {v : Value} {x : Val} {vs : List Value} {xs : List Val} (h : RepVs w C (v :: vs) (x :: xs)) : RepV w C v x ∧ RepVs w C vs xs :=
  ⟨h.2 0 v x rfl rfl, by have := h.1; simpa using this, fun i u y h1 h2 => h.2 (i + 1) u y (by simpa using h1) (by simpa using h2)⟩

theorem aArgs_ok {w : World} (ρ : Nat) : ∀ {xs : List Val} {ps : List PM} {C : Cz} {σ : List AObj} (hI : Inv w C σ) {vs : List Value} (hv : RepVs w C vs xs) {K : List Val → List AObj → Prop} (hk : aArgs ρ xs ps σ K),
    ∃ C' ys σ', K ys σ' ∧ CzLe w C w C' ∧ Inv w C' σ' ∧ Ext w C σ w C' σ' ∧ RepVs w C' vs ys
  | [], ps, C, σ, hI, vs, hv, K, hk => ⟨C, [], σ, by cases ps <;> exact hk, .refl w C, hI, .refl w C σ, hv⟩
  | x :: xs, ps, C, σ, hI, [], hv, K, hk => by have := hv.1; simp at this
  | x :: xs, [], C, σ, hI, v :: vs, hv, K, hk => by
    obtain ⟨h0, h1⟩ := hv.tail
    obtain ⟨C', ys, σ', k1, k2, k3, k4, k5⟩ := aArgs_ok ρ hI h1 hk
    exact ⟨C', _, σ', k1, k2, k3, k4, .cons (h0.mono k2) k5⟩
  | x :: xs, .ref :: ps, C, σ, hI, v :: vs, hv, K, hk => by
    obtain ⟨h0, h1⟩ := hv.tail
    obtain ⟨C', ys, σ', k1, k2, k3, k4, k5⟩ := aArgs_ok ρ hI h1 hk
    exact ⟨C', _, σ', k1, k2, k3, k4, .cons (h0.mono k2) k5⟩
  | x :: xs, .fz n :: ps, C, σ, hI, v :: vs, hv, K, hk => by
    obtain ⟨h0, h1⟩ := hv.tail
    simp only [aArgs] at hk
    split at hk
    · obtain ⟨C1, d, σ1, k1, l1, I1, E1, r1⟩ := frz1_ok hI ρ (c_of h0) hk
      obtain ⟨C2, ys, σ2, k2, l2, I2, E2, r2⟩ := aArgs_ok ρ I1 (h1.mono l1) k1
      exact ⟨C2, _, σ2, k2, l1.trans l2, I2, E1.trans E2, .cons (.c _ _ (.d _ _ (r1.mono l2.rg))) r2⟩
    · cases h0 with
      | agg arr cs hr =>
      obtain ⟨C1, ds, σ1, k1, l1, I1, E1, n1, r1⟩ := frzL_ok ρ hI hr hk
      obtain ⟨C2, ys, σ2, k2, l2, I2, E2, r2⟩ := aArgs_ok ρ I1 (h1.mono l1) k1
      exact ⟨C2, _, σ2, k2, l1.trans l2, I2, E1.trans E2, .cons (.agg _ _ (RepL.ofD n1 (fun i u y h1 h2 => (r1 i u y h1 h2).mono l2.rg))) r2⟩
    · exact hk.elim

/-! ### Calls -/
def memB : List Nat → Nat → Bool
  | [], _ => false
  | j :: l, i => Nat.beq j i || memB l i
def addNew (L : List Nat) : List Nat → List Nat
  | [] => L
  | i :: r => addNew (bif memB L i then L else L ++ [i]) r
def idsOf (σ : List AObj) : List Nat → List Nat
  | [] => []
  | i :: r => (obj σ i).ids ++ idsOf σ r
def reach (σ : List AObj) : Nat → List Nat → List Nat
  | 0, L => L
  | k + 1, L => reach σ k (addNew L (idsOf σ L))

def aCall1 (P : Program) (f : FuncId) (ys : List Val) (σ : List AObj) (L : List Nat) (K : Val → List AObj → Prop) (KP : AV → List AObj → Prop) : Prop :=
  bif nodupB L && closedB σ L L && subB L (Val.idsL ys) then
    ACall P f (Val.renL (idx L) ys) (sub σ L L) (fun o σc => match o with
      | .ret v => K (v.ren (un L σ.length)) (back L σ.length σc 0 σ)
      | .pan a => KP (a.ren (un L σ.length)) (back L σ.length σc 0 σ))
  else False

def aCall0 (P : Program) (f : FuncId) (ys : List Val) (σ : List AObj) (K : Val → List AObj → Prop) (KP : AV → List AObj → Prop) : Prop :=
  match Val.idsL ys with
  | [] => ACall P f ys [] (fun o σc => match σc with
    | [] => (match o with | .ret v => K v σ | .pan a => KP a σ)
    | _ :: _ => False)
  | i :: is => aCall1 P f ys σ (reach σ σ.length (addNew [] (i :: is))) K KP

def aCallF (P : Program) (T : Tab) (ρ : Nat) (f : FuncId) (args : List Val) (σ : List AObj) (K : Val → List AObj → Prop) (KP : AV → List AObj → Prop) : Prop :=
  bif T.fok f then aArgs ρ args (T.prm f) σ (fun ys σ1 => aCall0 P f ys σ1 K KP) else False

def outK (K : Val → List AObj → Prop) (KP : AV → List AObj → Prop) : Out → List AObj → Prop
  | .ret v, σ => K v σ
  | .pan a, σ => KP a σ

theorem aCall0_ok {P : Program} {w : World} {C : Cz} {σ : List AObj} (hI : Inv w C σ) {f : FuncId} {ys : List Val} {vs : Array Value} (hv : RepVs w C vs.toList ys) {K : Val → List AObj → Prop} {KP : AV → List AObj → Prop} (hk : aCall0 P f ys σ K KP) :
    Calls P f vs w fun e w' => ∃ o σ' C', outK K KP o σ' ∧ Inv w' C' σ' ∧ Ext w C σ w' C' σ' ∧ OutOk w' C' e o := by
  unfold aCall0 at hk
  split at hk
  · rename_i h0
    exact call_pure hI hv h0 (K := outK K KP) (hk.mono fun o σc h => by
      cases σc with
      | nil => cases o <;> exact h
      | cons _ _ => exact h.elim)
  · unfold aCall1 at hk
    generalize reach σ σ.length _ = L at hk
    cases hc : nodupB L && closedB σ L L && subB L (Val.idsL ys) with
    | false => rw [hc] at hk; exact hk.elim
    | true =>
      rw [hc] at hk
      simp only [Bool.and_eq_true] at hc
      exact call_frame hI hc.1.1 hc.1.2 hv hc.2 (K := outK K KP) (hk.mono fun o σc h => by cases o <;> exact h)

/-! ### One operation -/
def aPick (q : Bool) (x y : Val) (K : Val → Prop) : Prop :=
  match x, y with
  | .c (.d (.bool a)), .c (.d (.bool b)) => K (.c (.d (.bool (bif q then a else b))))
  | x, y => bif q then K x else K y

def avs : List Val → Option (List AV)
  | [] => some []
  | .c a :: l => match avs l with | some r => some (a :: r) | none => none
  | _ :: _ => none

def isFn : Fn → Option FuncId
  | .func f => some f
  | _ => none

def aBuiltin (T : Tab) (σ : List AObj) (b : Builtin) (ts : Array Nat) (xs : List Val) (K : Val → List AObj → Prop) : Prop :=
  match b, ts.toList, xs with
  | .len, [t], [x] => bif lenTy T t x then aLen x (fun v => K v σ) else False
  | .append, [t, t'], [s, x] => bif natEq t' t then aAppend T σ t s x K else False
  | .max, _, [x, y] => aMax x y (fun v => K v σ)
  | .min, _, [x, y] => aMin x y (fun v => K v σ)
  | _, _, _ => False

/-! ### Forcing: what is pushed into a state is brought to its form first. -/
def forceN (n : Nat) (K : Nat → Prop) : Prop :=
  match n with
  | 0 => K 0
  | 1 => K 1
  | 2 => K 2
  | 3 => K 3
  | 4 => K 4
  | 5 => K 5
  | 6 => K 6
  | 7 => K 7
  | 8 => K 8
  | n => K n
theorem forceN_eq (n : Nat) (K : Nat → Prop) : forceN n K = K n := by unfold forceN; split <;> rfl
def forceV (v : Val) (K : Val → Prop) : Prop :=
  match v with
  | .c a => (match a with
    | .d x => K (.c (.d x))
    | .ptr o k => forceN o (fun o => K (.c (.ptr o k)))
    | .own o n => forceN o (fun o => K (.c (.own o n)))
    | .rowp o n k => forceN o (fun o => K (.c (.rowp o n k)))
    | .emp => K (.c .emp)
    | .full r sz rows => K (.c (.full r sz rows))
    | .mp o => K (.c (.mp o))
    | .fn f a b => K (.c (.fn f a b))
    | .ifc t a => K (.c (.ifc t a))
    | .ifa t l => K (.c (.ifa t l)))
  | .agg l => K (.agg l)
  | .tup l => K (.tup l)
  | .junk => K .junk
theorem forceV_eq (v : Val) (K : Val → Prop) : forceV v K = K v := by
  cases v with
  | c a => cases a <;> simp only [forceV, forceN_eq]
  | _ => rfl
def forceA (a : AV) (K : AV → Prop) : Prop :=
  match a with
  | .d x => K (.d x)
  | .ptr o k => forceN o (fun o => K (.ptr o k))
  | .own o n => forceN o (fun o => K (.own o n))
  | .rowp o n k => forceN o (fun o => K (.rowp o n k))
  | .emp => K .emp
  | .full r sz rows => K (.full r sz rows)
  | .mp o => K (.mp o)
  | .fn f a b => K (.fn f a b)
  | .ifc t a => K (.ifc t a)
  | .ifa t l => K (.ifa t l)
theorem forceA_eq (a : AV) (K : AV → Prop) : forceA a K = K a := by cases a <;> simp only [forceA, forceN_eq]
def forceL : List AV → (List AV → Prop) → Prop
  | [], K => K []
  | a :: l, K => forceA a (fun a => forceL l (fun l => K (a :: l)))
theorem forceL_eq : ∀ (l : List AV) (K : List AV → Prop), forceL l K = K l
  | [], _ => rfl
  | a :: l, K => by simp only [forceL, forceA_eq, forceL_eq]
def forceO (o : AObj) (K : AObj → Prop) : Prop :=
  match o with
  | .var cells => forceL cells (fun l => K (.var l))
  | .row e sz rows => K (.row e sz rows)
  | .frz r l => K (.frz r l)
  | .mp k e l => K (.mp k e l)
  | .gone => K .gone
theorem forceO_eq (o : AObj) (K : AObj → Prop) : forceO o K = K o := by cases o <;> simp only [forceO, forceL_eq]
def forceS : List AObj → (List AObj → Prop) → Prop
  | [], K => K []
  | o :: l, K => forceO o (fun o => forceS l (fun l => K (o :: l)))
theorem forceS_eq : ∀ (l : List AObj) (K : List AObj → Prop), forceS l K = K l
  | [], _ => rfl
  | o :: l, K => by simp only [forceS, forceO_eq, forceS_eq]
/-- A new state of the objects, in its form. -/
def fK (K : Val → List AObj → Prop) (v : Val) (σ : List AObj) : Prop := forceS σ (fun σ => K v σ)
theorem fK_eq (K : Val → List AObj → Prop) : fK K = K := by funext v σ; exact forceS_eq σ _

def aop (P : Program) (T : Tab) (ρ : Nat) (env : List (Nat × Val)) (σ : List AObj) (o : Oper) (K : Val → List AObj → Prop) (KD : Dfr → Prop) (KP : AV → List AObj → Prop) : Prop :=
  match o.op with
  | .move x => K (ev env x) σ
  | .assign x => K (ev env x) σ
  | .pick c a b => match ev env c with
    | .c (.d (.bool q)) => aPick q (ev env a) (ev env b) (fun v => K v σ)
    | _ => False
  | .alloc t => aAlloc T σ t (fK K)
  | .box _ x => aBox σ (ev env x) (fK K)
  | .build t ps => aBuild T t (ps.toList.map fun p => (p.1, ev env p.2)) (fun v => K v σ)
  | .buildSlice t len ps => aBuildSlice T ρ σ t len (ps.toList.map fun p => (p.1, ev env p.2)) (fK K)
  | .load t a => aLoad T σ t (ev env a) K
  | .store t a x => aStore T σ t (ev env a) (ev env x) (fun σ' => fK K .junk σ')
  | .nilCheck x => aNil (ev env x) (fun v => K v σ)
  | .binOp op t x y _ => aBin T op t (ev env x) (ev env y) (isC x || isC y) (fun v => K v σ)
  | .unOp op _ x => aUn op (ev env x) (fun v => K v σ)
  | .convert s d x => aConv T ρ σ s d (ev env x) (fK K)
  | .makeInterface t x => aMkIfc T t (ev env x) (fun v => K v σ)
  | .makeFunc fn first cap => match isFn fn, avs (first.toList.map (ev env)), avs (cap.toList.map (ev env)) with
    | some f, some a, some b => K (.c (.fn f a b)) σ
    | _, _, _ => False
  | .slice t x lo hi mx => aSlice T t (ev env x) (lo.map (ev env)) (hi.map (ev env)) (mx.map (ev env)) (fun v => K v σ)
  | .fieldAddr s x f => aFieldAddr T s (ev env x) f (fun v => K v σ)
  | .field s x f => aField T s (ev env x) f (fun v => K v σ)
  | .indexAddr t x i => aIndexAddr T σ t (ev env x) (ev env i) (fun v => K v σ)
  | .index t x i => aIndex T t (ev env x) (ev env i) (fun v => K v σ)
  | .typeAssert x _ t ok => aAssert T (ev env x) t ok (fun v => K v σ)
  | .extract x k => aExtract (ev env x) k (fun v => K v σ)
  | .call c => match c.callee with
    | .value f => match ev env f with
      | .c (.fn g first cap) => aCallF P T ρ g (first.map .c ++ (c.args.toList.map (ev env) ++ cap.map .c)) σ (fK K) KP
      | _ => False
    | .builtin b => aBuiltin T σ b c.argTypes (c.args.toList.map (ev env)) (fK K)
    | .invoke _ _ => False
  | .defer c => match c.callee with
    | .value f => match ev env f, avs (c.args.toList.map (ev env)) with
      | .c (.fn g first cap), some as => KD ⟨g, first ++ as ++ cap⟩
      | _, _ => False
    | _ => False
  | .panic x => match ev env x with
    | .c (.ifc t a) => KP (.ifc t a) σ
    | .c (.ifa t l) => KP (.ifa t l) σ
    | .c (.d (.ifc t a)) => KP (.d (.ifc t a)) σ
    | .c (.d (.ifa t l)) => KP (.d (.ifa t l)) σ
    | _ => False
  | _ => False

theorem wp_val {P : Program} {o : Oper} {a : Act} {w w' : World} {v : Value} {next : Act → World → Prop} {Q : Exit → Act → World → Prop} (h : (execOp a.eval o).run P w = .ok (.value v) w') (hn : next (a.put o.dst v) w') :
    o.wp P a w next Q := by unfold Oper.wp; rw [h]; exact hn

theorem wp_ok1 {P : Program} {o : Oper} {a : Act} {w : World} {C : Cz} {σ : List AObj} {s : Sem Value} (hs : execOp a.eval o = (do pure (Next.value (← s)))) {K : Val → List AObj → Prop} (h : OK1 P s w C σ K) {next : Act → World → Prop} {Q : Exit → Act → World → Prop}
    (hn : ∀ v w' C' x σ', K x σ' → Inv w' C' σ' → Ext w C σ w' C' σ' → RepV w' C' v x → next (a.put o.dst v) w') : o.wp P a w next Q := by
  obtain ⟨v, w', C', x, σ', h1, h2, h3, h4, h5⟩ := h
  refine wp_val (v := v) (w' := w') ?_ (hn v w' C' x σ' h2 h3 h4 h5)
  rw [hs, Sem.run_bind, h1]; rfl

theorem parts_rep {w : World} {C : Cz} {a : Act} {S : St} (h : EnvOk w C a S) (ps : Array (Nat × Operand)) : RepP w C (ps.map fun (i, x) => (i, a.eval x)).toList (ps.toList.map fun p => (p.1, ev S.env p.2)) := by
  refine ⟨by simp, fun i p q h1 h2 => ?_⟩
  simp only [Array.toList_map, List.getElem?_map] at h1 h2
  cases hp : ps.toList[i]? with
  | none => rw [hp] at h1; cases h1
  | some y =>
    rw [hp] at h1 h2
    cases h1; cases h2
    exact ⟨rfl, (ev_rep h y.2).k⟩

theorem evs_rep {w : World} {C : Cz} {a : Act} {S : St} (h : EnvOk w C a S) (xs : Array Operand) : RepVs w C (xs.map a.eval).toList (xs.toList.map (ev S.env)) := by
  refine ⟨by simp, fun i v x h1 h2 => ?_⟩
  simp only [Array.toList_map, List.getElem?_map] at h1 h2
  cases hp : xs.toList[i]? with
  | none => rw [hp] at h1; cases h1
  | some y =>
    rw [hp] at h1 h2
    cases h1; cases h2
    exact ev_rep h y

theorem avs_rep {w : World} {C : Cz} : ∀ {xs : List Val} {as : List AV} {vs : List Value}, RepVs w C vs xs → avs xs = some as → RepL w C vs as
  | [], as, vs, h, ha => by simp [avs] at ha; subst ha; exact ⟨h.1, fun i v a _ h2 => by simp at h2⟩
  | .c a :: xs, as, [], h, ha => by have := h.1; simp at this
  | .c a :: xs, as, v :: vs, h, ha => by
    simp only [avs] at ha
    split at ha
    · rename_i r hr
      cases ha
      obtain ⟨h0, h1⟩ := h.tail
      have ih := avs_rep h1 hr
      refine ⟨by simp [ih.1], fun i u b g1 g2 => ?_⟩
      cases i with
      | zero => simp at g1 g2; subst g1; subst g2; exact c_of h0
      | succ i => exact ih.2 i u b (by simpa using g1) (by simpa using g2)
    · cases ha
  | .agg _ :: _, _, _, _, ha => by simp [avs] at ha
  | .tup _ :: _, _, _, _, ha => by simp [avs] at ha
  | .junk :: _, _, _, _, ha => by simp [avs] at ha

theorem fn_parts {w : World} {C : Cz} {v : Value} {f : FuncId} {first cap : List AV} (h : RepA w C v (.fn f first cap)) : ∃ fs cs : Array Value, v = .func (.func f) fs cs ∧ RepL w C fs.toList first ∧ RepL w C cs.toList cap := by
  cases h with
  | fn _ fs cs _ _ vf vc h1 h2 g1 g2 r1 r2 =>
    refine ⟨fs, cs, rfl, ⟨by simpa using h1, fun i u a q1 q2 => ?_⟩, ⟨by simpa using h2, fun i u a q1 q2 => ?_⟩⟩
    · have := g1 i (List.getElem?_eq_some_iff.1 q2).1
      rw [Array.getElem?_toList, this] at q1; cases q1
      exact r1 i a q2
    · have := g2 i (List.getElem?_eq_some_iff.1 q2).1
      rw [Array.getElem?_toList, this] at q1; cases q1
      exact r2 i a q2

theorem repL_vs {w : World} {C : Cz} {vs : List Value} {as : List AV} (h : RepL w C vs as) : RepVs w C vs (as.map .c) :=
  ⟨by simp [h.1], fun i v x h1 h2 => by
    rw [List.getElem?_map] at h2
    cases ha : as[i]? with
    | none => rw [ha] at h2; cases h2
    | some a => rw [ha] at h2; cases h2; exact .c _ _ (h.2 i v a h1 ha)⟩

theorem RepVs.append {w : World} {C : Cz} {vs us : List Value} {xs ys : List Val} (h : RepVs w C vs xs) (g : RepVs w C us ys) : RepVs w C (vs ++ us) (xs ++ ys) :=
  ⟨by simp [h.1, g.1], fun i v x h1 h2 => by
    have hl := h.1
    by_cases hi : i < vs.length
    · rw [List.getElem?_append_left hi] at h1
      rw [List.getElem?_append_left (by omega)] at h2
      exact h.2 i v x h1 h2
    · rw [List.getElem?_append_right (by omega)] at h1
      rw [List.getElem?_append_right (by omega)] at h2
      rw [hl] at h1
      exact g.2 _ v x h1 h2⟩
theorem RepL.append {w : World} {C : Cz} {vs us : List Value} {xs ys : List AV} (h : RepL w C vs xs) (g : RepL w C us ys) : RepL w C (vs ++ us) (xs ++ ys) :=
  ⟨by simp [h.1, g.1], fun i v x h1 h2 => by
    have hl := h.1
    by_cases hi : i < vs.length
    · rw [List.getElem?_append_left hi] at h1
      rw [List.getElem?_append_left (by omega)] at h2
      exact h.2 i v x h1 h2
    · rw [List.getElem?_append_right (by omega)] at h1
      rw [List.getElem?_append_right (by omega)] at h2
      rw [hl] at h1
      exact g.2 _ v x h1 h2⟩

theorem two_of {α : Type} {xs : Array α} {l : List Val} {w : World} {C : Cz} {f : α → Value} (h : RepVs w C (xs.map f).toList l) {x y : Val} (hl : l = [x, y]) : ∃ u v, xs.map f = #[u, v] ∧ RepV w C u x ∧ RepV w C v y := by
  subst hl
  have hn := h.1
  generalize hz : (xs.map f) = z at h hn
  obtain ⟨zl⟩ := z
  match zl, hn with
  | [u, v], _ => exact ⟨u, v, rfl, h.2 0 u x rfl rfl, h.2 1 v y rfl rfl⟩
theorem one_of {α : Type} {xs : Array α} {l : List Val} {w : World} {C : Cz} {f : α → Value} (h : RepVs w C (xs.map f).toList l) {x : Val} (hl : l = [x]) : ∃ u, xs.map f = #[u] ∧ RepV w C u x := by
  subst hl
  have hn := h.1
  generalize hz : (xs.map f) = z at h hn
  obtain ⟨zl⟩ := z
  match zl, hn with
  | [u], _ => exact ⟨u, rfl, h.2 0 u x rfl rfl⟩

theorem repO_map {w : World} {C : Cz} {a : Act} {S : St} (h : EnvOk w C a S) (x : Option Operand) : RepO w C (x.map a.eval) (x.map (ev S.env)) := by
  cases x with
  | none => trivial
  | some x => exact ev_rep h x

end Go.Proofs.Ytdhkopangbgehaa.E
