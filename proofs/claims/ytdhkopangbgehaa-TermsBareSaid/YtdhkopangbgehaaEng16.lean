/- The engine, part 16: regions in the text's order, code, loops, functions. No conditions. -/
import Derived.Test.YtdhkopangbgehaaEng15
set_option linter.unusedVariables false
set_option linter.unusedSimpArgs false
namespace Go.Proofs.Ytdhkopangbgehaa.E
open Go

/-! ### A region, in the text's order -/
def St.put (n : Nat) (env : List (Nat × Val)) (σ : List AObj) (ds : List Dfr) (d : Option Nat) (v : Val) (K : St → Prop) : Prop :=
  match d with
  | some d => bif Nat.blt d n then forceV v (fun v => K ⟨n, (d, v) :: env, σ, ds⟩) else False
  | none => K ⟨n, env, σ, ds⟩

def astep (P : Program) (T : Tab) (ρ : Nat) (S : St) (o : Oper) (K : St → Prop) (KP : AV → St → Prop) : Prop :=
  match S with
  | ⟨n, env, σ, ds⟩ => aop P T ρ env σ o (fun v σ' => St.put n env σ' ds o.dst v K) (fun x => St.put n env σ (x :: ds) o.dst .junk K) (fun a σ' => KP a ⟨n, env, σ', ds⟩)

theorem blt_lt {a b : Nat} (h : Nat.blt a b = true) : a < b := by rw [Nat.blt_eq] at h; exact h

def dstOf (ops : Array Oper) (j : Nat) : Option Nat := match ops[j]? with | some o => o.dst | none => none

def arun (P : Program) (T : Tab) (ρ : Nat) (ops : Array Oper) : List Oper → St → (St → Prop) → (AV → St → Prop) → Prop
  | [], S, K, KP => K S
  | o :: r, S, K, KP => match o.guard with
    | none => astep P T ρ S o (fun S' => arun P T ρ ops r S' K KP) KP
    | some (j, want) => match dstOf ops j with
      | none => False
      | some g => match S with
        | ⟨n, env, σ, ds⟩ => match get env g with
          | .c (.d (.bool b)) => match want with
            | true => bif b then astep P T ρ ⟨n, (g, .c (.d (.bool true))) :: env, σ, ds⟩ o (fun S' => arun P T ρ ops r S' K KP) KP
                else St.put n ((g, .c (.d (.bool false))) :: env) σ ds o.dst (.tup []) (fun S' => arun P T ρ ops r S' K KP)
            | false => bif b then St.put n ((g, .c (.d (.bool true))) :: env) σ ds o.dst (.tup []) (fun S' => arun P T ρ ops r S' K KP)
                else astep P T ρ ⟨n, (g, .c (.d (.bool false))) :: env, σ, ds⟩ o (fun S' => arun P T ρ ops r S' K KP) KP
          | .tup [] => St.put n env σ ds o.dst (.tup []) (fun S' => arun P T ρ ops r S' K KP)
          | _ => False

theorem rep_undef {w : World} {C : Cz} : RepV w C undef (.tup []) := .tup #[] [] rfl (fun i v x h => by simp at h)

theorem EnvOk.σ {w : World} {C : Cz} {a : Act} {S : St} (h : EnvOk w C a S) (σ' : List AObj) : EnvOk w C a { S with σ := σ' } := ⟨h.size, h.env, h.dlen, h.ds⟩

/-- What is known of a slot may be told again. -/
theorem EnvOk.known {w : World} {C : Cz} {a : Act} {S : St} (h : EnvOk w C a S) (g : Nat) {v : Val} (hv : get S.env g = v) : EnvOk w C a { S with env := (g, v) :: S.env } :=
  ⟨h.size, fun t => by
    simp only [get_cons]
    by_cases e : g = t
    · subst e; rw [if_pos rfl, ← hv]; exact h.env g
    · rw [if_neg e]; exact h.env t, h.dlen, h.ds⟩

theorem put_env {w : World} {C : Cz} {a : Act} {n : Nat} {env : List (Nat × Val)} {σ : List AObj} {ds : List Dfr} (h : EnvOk w C a ⟨n, env, σ, ds⟩) {d : Option Nat} {v : Value} {x : Val} (hx : RepV w C v x) {K : St → Prop} (hk : St.put n env σ ds d x K) :
    ∃ S', K S' ∧ EnvOk w C (a.put d v) S' ∧ S'.σ = σ := by
  unfold St.put at hk
  split at hk
  · rename_i d
    cases hb : Nat.blt d n with
    | false => rw [hb] at hk; exact hk.elim
    | true =>
      rw [hb] at hk
      simp only [forceV_eq, cond_true] at hk
      exact ⟨_, hk, h.put (S := ⟨n, env, σ, ds⟩) (blt_lt hb) hx, rfl⟩
  · exact ⟨_, hk, h, rfl⟩

section
variable {P : Program} {T : Tab} (HT : TabOk P T)

inductive AEx where
  | normal
  | exit (id : Nat)
  | ret
  | pan (a : AV)

def XOk (w : World) (C : Cz) : Exit → AEx → Prop
  | .normal, .normal => True
  | .exit i, .exit j => i = j
  | .ret, .ret => True
  | .panic ch, .pan a => ∃ v, ch = [{ v := v, recovered := false }] ∧ RepA w C v a
  | _, _ => False

/-- How code ends that was begun in w, C, σ. -/
def Post (w : World) (C : Cz) (σ : List AObj) (K : AEx → St → Prop) (e : Exit) (a' : Act) (w' : World) : Prop :=
  ∃ x S' C', K x S' ∧ XOk w' C' e x ∧ Inv w' C' S'.σ ∧ EnvOk w' C' a' S' ∧ Ext w C σ w' C' S'.σ

include HT in
theorem astep_ok (ρ : Nat) {w0 : World} {C0 : Cz} {σ0 : List AObj} {w : World} {C : Cz} {a : Act} {S : St} (hI : Inv w C S.σ) (hE : EnvOk w C a S) (hX : Ext w0 C0 σ0 w C S.σ) {o : Oper} {K : St → Prop} {KP : AV → St → Prop} (hk : astep P T ρ S o K KP)
    {next : Act → World → Prop} {Q : Exit → Act → World → Prop}
    (hn : ∀ S' w' C' a', K S' → Inv w' C' S'.σ → EnvOk w' C' a' S' → Ext w0 C0 σ0 w' C' S'.σ → next a' w')
    (hp : ∀ v x S' w' C', KP x S' → Inv w' C' S'.σ → EnvOk w' C' a S' → Ext w0 C0 σ0 w' C' S'.σ → RepA w' C' v x → Q (.panic [{ v := v, recovered := false }]) a w') : o.wp P a w next Q := by
  obtain ⟨n, env, σ, ds⟩ := S
  unfold astep at hk
  refine aop_ok HT ρ (S := ⟨n, env, σ, ds⟩) hI hE hk (fun v w' C' x σ' h1 h2 h3 h4 => ?_) (fun d x h1 h2 => ?_) (fun v x w' C' σ' h1 h2 h3 h4 => ?_)
  · obtain ⟨S', q1, q2, q3⟩ := put_env ((hE.mono h3.le).σ σ') h4 h1
    exact hn S' w' C' _ q1 (by rw [q3]; exact h2) q2 (by rw [q3]; exact hX.trans h3)
  · have hE' : EnvOk w C { a with defers := d :: a.defers } ⟨n, env, σ, x :: ds⟩ := ⟨hE.size, hE.env, by simp [hE.dlen], fun i d' x' g1 g2 => by
      cases i with
      | zero => simp at g1 g2; subst g1; subst g2; exact h2
      | succ i => exact hE.ds i d' x' (by simpa using g1) (by simpa using g2)⟩
    obtain ⟨S', q1, q2, q3⟩ := put_env hE' (.junk _) h1
    exact hn S' w C _ q1 (by rw [q3]; exact hI) q2 (by rw [q3]; exact hX)
  · exact hp v x _ w' C' h1 h2 ((hE.mono h3.le).σ σ') (hX.trans h3) h4

theorem yielded_of {w : World} {C : Cz} {a : Act} {S : St} (hE : EnvOk w C a S) {ops : Array Oper} {j g : Nat} (hj : dstOf ops j = some g) {b : Bool} (hb : get S.env g = .c (.d (.bool b))) : yielded ops a.tmps j = some b := by
  have h1 := hE.env g
  rw [hb] at h1
  have h2 := bool_of h1
  unfold dstOf at hj
  split at hj
  · rename_i o ho
    have hget : a.tmps[g]? = some (.bool b) := by
      rw [Array.getD_eq_getD_getElem?] at h2
      cases hx : a.tmps[g]? with
      | none => rw [hx] at h2; simp [undef] at h2
      | some v => rw [hx] at h2; simp at h2; rw [h2]
    simp [yielded, ho, hj, hget]
  · cases hj

theorem yielded_none {w : World} {C : Cz} {a : Act} {S : St} (hE : EnvOk w C a S) {ops : Array Oper} {j g : Nat} (hj : dstOf ops j = some g) (hb : get S.env g = .tup []) : yielded ops a.tmps j = none := by
  have h1 := hE.env g
  rw [hb] at h1
  unfold dstOf at hj
  split at hj
  · rename_i o ho
    simp only [yielded, ho, Option.bind_some, hj]
    rw [Array.getD_eq_getD_getElem?] at h1
    cases hx : a.tmps[g]? with
    | none => rfl
    | some v =>
      rw [hx] at h1
      simp only [Option.getD_some] at h1
      cases h1
      rfl
  · cases hj

include HT in
theorem arun_ok (ρ : Nat) (ops : Array Oper) {w0 : World} {C0 : Cz} {σ0 : List AObj} {K : St → Prop} {KP : AV → St → Prop} {Q : Exit → Act → World → Prop}
    (hn : ∀ S' w' C' a', K S' → Inv w' C' S'.σ → EnvOk w' C' a' S' → Ext w0 C0 σ0 w' C' S'.σ → Q .normal a' w')
    (hp : ∀ v x S' w' C' a, KP x S' → Inv w' C' S'.σ → EnvOk w' C' a S' → Ext w0 C0 σ0 w' C' S'.σ → RepA w' C' v x → Q (.panic [{ v := v, recovered := false }]) a w') :
    ∀ (l : List Oper) {w : World} {C : Cz} {a : Act} {S : St} (hI : Inv w C S.σ) (hE : EnvOk w C a S) (hX : Ext w0 C0 σ0 w C S.σ) (hk : arun P T ρ ops l S K KP), wpList P ops Q l a w
  | [], w, C, a, S, hI, hE, hX, hk => hn S w C a hk hI hE hX
  | o :: r, w, C, a, S, hI, hE, hX, hk => by
    unfold wpList
    simp only [arun] at hk
    split at hk
    · rename_i hg
      rw [if_pos (by simp [Region.wanted, hg])]
      exact .inl (astep_ok HT ρ hI hE hX hk (fun S' w' C' a' h1 h2 h3 h4 => arun_ok ρ ops hn hp r h2 h3 h4 h1) (fun v x S' w' C' h1 h2 h3 h4 h5 => hp v x S' w' C' a h1 h2 h3 h4 h5))
    · rename_i j want hg
      split at hk
      · exact hk.elim
      · rename_i g hj
        obtain ⟨n, env, σ, ds⟩ := S
        simp only at hk
        split at hk
        · rename_i b hb
          have hy := yielded_of hE hj hb
          have hwant : Region.wanted o (yielded ops a.tmps) = (some b == some want) := by simp [Region.wanted, hg, hy]
          have skip : ∀ (b' : Bool), b = b' → St.put n ((g, .c (.d (.bool b'))) :: env) σ ds o.dst (.tup []) (fun S' => arun P T ρ ops r S' K KP) → wpList P ops Q r (a.put o.dst undef) w := fun b' e hk => by
            subst e
            obtain ⟨S', q1, q2, q3⟩ := put_env (hE.known g hb) rep_undef hk
            exact arun_ok ρ ops hn hp r (by rw [q3]; exact hI) q2 (by rw [q3]; exact hX) q1
          have go : ∀ (b' : Bool), b = b' → astep P T ρ ⟨n, (g, .c (.d (.bool b'))) :: env, σ, ds⟩ o (fun S' => arun P T ρ ops r S' K KP) KP → o.wp P a w (wpList P ops Q r) Q := fun b' e hk => by
            subst e
            exact astep_ok HT ρ (S := ⟨n, (g, .c (.d (.bool b))) :: env, σ, ds⟩) hI (hE.known g hb) hX hk (fun S' w' C' a' h1 h2 h3 h4 => arun_ok ρ ops hn hp r h2 h3 h4 h1) (fun v x S' w' C' h1 h2 h3 h4 h5 => hp v x S' w' C' a h1 h2 h3 h4 h5)
          rw [hwant]
          cases want <;> cases b
          · simp only [beq_self_eq_true, if_true]; exact .inl (go false rfl hk)
          · rw [if_neg (by decide)]; exact skip true rfl hk
          · rw [if_neg (by decide)]; exact skip false rfl hk
          · simp only [beq_self_eq_true, if_true]; exact .inl (go true rfl hk)
        · rename_i hb
          have hy := yielded_none hE hj hb
          have hwant : Region.wanted o (yielded ops a.tmps) = false := by simp [Region.wanted, hg, hy]
          rw [hwant, if_neg (by decide)]
          obtain ⟨S', q1, q2, q3⟩ := put_env hE rep_undef hk
          exact arun_ok ρ ops hn hp r (by rw [q3]; exact hI) q2 (by rw [q3]; exact hX) q1
        · exact hk.elim

/-! ### Code -/
structure AW (P : Program) (T : Tab) (ρ : Nat) (c : Code) (S : St) (K : AEx → St → Prop) : Prop where
  out : ∀ (w : World) (C : Cz) (a : Act), Inv w C S.σ → EnvOk w C a S → c.wp P (Post w C S.σ K) a w

include HT in
theorem AW.region {ρ id : Nat} {ops : Array Oper} {S : St} {K : AEx → St → Prop} (h : arun P T ρ ops ops.toList S (K .normal) (fun a => K (.pan a))) : AW P T ρ (.region id ops false) S K :=
  ⟨fun w C a hI hE => wp_region_list (arun_ok HT ρ ops (fun S' w' C' a' h1 h2 h3 h4 => ⟨.normal, S', C', h1, trivial, h2, h3, h4⟩) (fun v x S' w' C' a h1 h2 h3 h4 h5 => ⟨.pan x, S', C', h1, ⟨v, rfl, h5⟩, h2, h3, h4⟩) ops.toList hI hE (.refl w C _) h)⟩

def athen (N : St → Prop) (K : AEx → St → Prop) : AEx → St → Prop
  | .normal, S => N S
  | .exit id, S => K (.exit id) S
  | .ret, S => K .ret S
  | .pan a, S => K (.pan a) S

theorem AW.seq {ρ : Nat} {x y : Code} {S : St} {K : AEx → St → Prop} (h : AW P T ρ x S (athen (fun S' => AW P T ρ y S' K) K)) : AW P T ρ (.seq x y) S K :=
  ⟨fun w C a hI hE => wp_seq (wp_mono (h.out w C a hI hE) fun e a' w' ⟨z, S', C', k, x, i, en, ex⟩ => by
    cases e <;> cases z <;> first | (exact x.elim) | skip
    · exact wp_mono (k.out w' C' a' i en) fun e a'' w'' ⟨z, S'', C'', k, x, i, en, ex'⟩ => ⟨z, S'', C'', k, x, i, en, ex.trans ex'⟩
    · exact ⟨_, S', C', k, x, i, en, ex⟩
    · exact ⟨_, S', C', k, x, i, en, ex⟩
    · exact ⟨_, S', C', k, x, i, en, ex⟩)⟩

theorem AW.skip {ρ : Nat} {S : St} {K : AEx → St → Prop} (h : K .normal S) : AW P T ρ .skip S K := ⟨fun w C a hI hE => wp_skip ⟨_, S, C, h, trivial, hI, hE, .refl w C _⟩⟩
theorem AW.ret {ρ : Nat} {S : St} {K : AEx → St → Prop} (h : K .ret S) : AW P T ρ .ret S K := ⟨fun w C a hI hE => wp_ret ⟨_, S, C, h, trivial, hI, hE, .refl w C _⟩⟩
theorem AW.exit {ρ id : Nat} {S : St} {K : AEx → St → Prop} (h : K (.exit id) S) : AW P T ρ (.exit id) S K := ⟨fun w C a hI hE => wp_exit ⟨_, S, C, h, rfl, hI, hE, .refl w C _⟩⟩

theorem AW.mono {ρ : Nat} {c : Code} {S : St} {K K' : AEx → St → Prop} (h : AW P T ρ c S K) (hk : ∀ e S', K e S' → K' e S') : AW P T ρ c S K' :=
  ⟨fun w C a hI hE => wp_mono (h.out w C a hI hE) fun e a' w' ⟨z, S', C', k, x⟩ => ⟨z, S', C', hk _ _ k, x⟩⟩

def ablk (id : Nat) (K : AEx → St → Prop) : AEx → St → Prop
  | .normal, S => K .normal S
  | .exit id', S => bif natEq id' id then K .normal S else K (.exit id') S
  | .ret, S => K .ret S
  | .pan a, S => K (.pan a) S

theorem AW.block {ρ id : Nat} {c : Code} {S : St} {K : AEx → St → Prop} (h : AW P T ρ c S (ablk id K)) : AW P T ρ (.block id c) S K :=
  ⟨fun w C a hI hE => wp_block (wp_mono (h.out w C a hI hE) fun e a' w' ⟨z, S', C', k, x, i, en, ex⟩ => by
    cases e <;> cases z <;> first | (exact x.elim) | skip
    · exact ⟨_, S', C', k, x, i, en, ex⟩
    · rename_i i1 _ i2
      have hx : i1 = i2 := x
      subst hx
      simp only [ablk] at k
      simp only [Exit.inBlock]
      cases hb : natEq i1 id with
      | true => rw [hb] at k; rw [if_pos (natEq_eq hb)]; exact ⟨.normal, S', C', k, trivial, i, en, ex⟩
      | false =>
        rw [hb] at k
        rw [if_neg (fun e => by subst e; simp [natEq] at hb)]
        exact ⟨.exit i1, S', C', k, rfl, i, en, ex⟩
    · exact ⟨_, S', C', k, x, i, en, ex⟩
    · exact ⟨_, S', C', k, x, i, en, ex⟩)⟩

/-- A test. -/
def acond (P : Program) (T : Tab) (ρ : Nat) (c : Operand) (x y : Code) (S : St) (K : AEx → St → Prop) : Prop :=
  match S with
  | ⟨n, env, σ, ds⟩ => match ev env c with
    | .c (.d (.bool b)) => match c with
      | .tmp t => bif b then AW P T ρ x ⟨n, (t, .c (.d (.bool true))) :: env, σ, ds⟩ K else AW P T ρ y ⟨n, (t, .c (.d (.bool false))) :: env, σ, ds⟩ K
      | _ => bif b then AW P T ρ x ⟨n, env, σ, ds⟩ K else AW P T ρ y ⟨n, env, σ, ds⟩ K
    | _ => False

theorem AW.cond {ρ : Nat} {c : Operand} {x y : Code} {S : St} {K : AEx → St → Prop} (h : acond P T ρ c x y S K) : AW P T ρ (.cond c x y) S K :=
  ⟨fun w C a hI hE => by
    obtain ⟨n, env, σ, ds⟩ := S
    unfold acond at h
    simp only at h
    split at h
    · rename_i b hb
      have hr := ev_rep hE c
      rw [hb] at hr
      have hv := bool_of hr
      refine wp_cond hv ?_
      split at h
      · rename_i t
        cases b with
        | true =>
          have hk : EnvOk w C a ⟨n, (t, .c (.d (.bool true))) :: env, σ, ds⟩ := hE.known t hb
          exact h.out w C a hI hk
        | false =>
          have hk : EnvOk w C a ⟨n, (t, .c (.d (.bool false))) :: env, σ, ds⟩ := hE.known t hb
          exact h.out w C a hI hk
      · cases b with
        | true => exact h.out w C a hI hE
        | false => exact h.out w C a hI hE
    · exact h.elim⟩

/-! ### Fewer slots, fewer objects -/
def fitsE : List (Nat × Val) → List (Nat × Val) → Prop
  | [], _ => True
  | (t, v) :: r, env => get env t = v ∧ fitsE r env

theorem fitsE_get : ∀ {r env : List (Nat × Val)}, fitsE r env → ∀ t, get r t = .junk ∨ get r t = get env t
  | [], _, _, t => .inl rfl
  | (s, v) :: r, env, h, t => by
    rw [get_cons]
    by_cases e : s = t
    · subst e; rw [if_pos rfl]; exact .inr h.1.symm
    · rw [if_neg e]; exact fitsE_get h.2 t

def ltB (n : Nat) : List Nat → Bool
  | [] => true
  | i :: l => Nat.blt i n && ltB n l
theorem ltB_mem {n : Nat} : ∀ {l : List Nat}, ltB n l = true → ∀ i ∈ l, i < n
  | j :: l, h, i, hi => by
    simp only [ltB, Bool.and_eq_true] at h
    rcases List.mem_cons.1 hi with rfl | hi
    · exact blt_lt h.1
    · exact ltB_mem h.2 i hi
def closedN (n : Nat) : List AObj → Bool
  | [] => true
  | o :: l => ltB n o.ids && closedN n l
theorem closedN_mem {n : Nat} : ∀ {l : List AObj}, closedN n l = true → ∀ (k : Nat) o, l[k]? = some o → ∀ i ∈ o.ids, i < n
  | p :: l, h, k, o, hk => by
    simp only [closedN, Bool.and_eq_true] at h
    cases k with
    | zero => simp at hk; subst hk; exact ltB_mem h.1
    | succ k => exact closedN_mem h.2 k o (by simpa using hk)
def envIds : List (Nat × Val) → List Nat
  | [] => []
  | (_, v) :: r => v.ids ++ envIds r
theorem envIds_get : ∀ {r : List (Nat × Val)} (t : Nat), ∀ i ∈ (get r t).ids, i ∈ envIds r
  | [], t, i, hi => by simp [get, Val.ids] at hi
  | (s, v) :: r, t, i, hi => by
    rw [get_cons] at hi
    simp only [envIds, List.mem_append]
    split at hi
    · exact .inl hi
    · exact .inr (envIds_get t i hi)

theorem take_ren {w : World} {C : Cz} {n : Nat} {v : Value} {x : Val} (h : RepV w C v x) (hx : ∀ i ∈ x.ids, i < n) : RepV w ⟨C.θ.take n, C.rg⟩ v x := by
  have := h.ren (C' := ⟨C.θ.take n, C.rg⟩) (f := id) rfl (fun i hi e he => by
    simp only [id]
    rw [List.getElem?_take, if_pos (hx i hi)]; exact he)
  have hid : ∀ (x : Val), x.ren id = x := by
    have hA : ∀ (a : AV), a.ren id = a := by
      intro a
      exact AV.rec (motive_1 := fun a => a.ren id = a) (motive_2 := fun l => AV.renL id l = l)
        (fun x => by rw [AV.ren]) (fun o k => by rw [AV.ren]; rfl) (fun o n => by rw [AV.ren]; rfl) (fun o n k => by rw [AV.ren]; rfl) (by rw [AV.ren]) (fun r sz rows => by rw [AV.ren]) (fun o => by rw [AV.ren]; rfl)
        (fun f a b h1 h2 => by rw [AV.ren, h1, h2]) (fun t x h => by rw [AV.ren, h]) (fun t l h => by rw [AV.ren, h]) (by rw [AV.renL]) (fun a l h1 h2 => by rw [AV.renL, h1, h2]) a
    intro x
    exact Val.rec (motive_1 := fun x => x.ren id = x) (motive_2 := fun l => Val.renL id l = l)
      (fun a => by rw [Val.ren, hA]) (fun l => by rw [Val.ren, renL_map, show (AV.ren id) = id from funext hA, List.map_id]) (fun vs h => by rw [Val.ren, h]) (by rw [Val.ren]) (by rw [Val.renL]) (fun a l h1 h2 => by rw [Val.renL, h1, h2]) x
  rw [hid] at this
  exact this


theorem takeL_ren {w : World} {C : Cz} {n : Nat} {vs : List Value} {as : List AV} (h : RepL w C vs as) (hx : ∀ i ∈ AV.idsL as, i < n) : RepL w ⟨C.θ.take n, C.rg⟩ vs as :=
  ⟨h.1, fun i v a h1 h2 => by
    have := take_ren (n := n) (RepV.c v a (h.2 i v a h1 h2)) (fun j hj => hx j (idsL_mem (List.mem_of_getElem? h2) j (by simpa [Val.ids] using hj)))
    exact c_of this⟩

/-- The first objects alone. -/
theorem trunc {w : World} {C : Cz} {σ τ : List AObj} (hI : Inv w C σ) {ξ : List AObj} (hσ : σ = τ ++ ξ) (hcl : closedN τ.length τ = true) :
    Inv w ⟨C.θ.take τ.length, C.rg⟩ τ ∧ (∀ {w0 : World} {C0 : Cz} {σ0 : List AObj}, σ0.length ≤ τ.length → Ext w0 C0 σ0 w C σ → C0.θ.length = σ0.length → Ext w0 C0 σ0 w ⟨C.θ.take τ.length, C.rg⟩ τ) := by
  have hlen := hI.len
  have hσl : τ.length ≤ σ.length := by rw [hσ]; simp
  have hget : ∀ (i : Nat) o, τ[i]? = some o → σ[i]? = some o := fun i o h => by rw [hσ, List.getElem?_append_left (List.getElem?_eq_some_iff.1 h).1]; exact h
  have hθ : ∀ (i : Nat) e, (C.θ.take τ.length)[i]? = some e → C.θ[i]? = some e := fun i e h => by
    rw [List.getElem?_take] at h
    split at h
    · exact h
    · cases h
  refine ⟨⟨by simp; omega, fun i o e h1 h2 => ?_, fun i o e b h1 h2 h3 h4 => hI.unrg i o e b (hget i o h1) h2 (hθ i e h3) h4, fun i j o p e f b h1 h2 h3 h4 h5 h6 h7 h8 => hI.apart i j o p e f b (hget i o h1) (hget j p h2) h3 h4 (hθ i e h5) (hθ j f h6) h7 h8, hI.rgs⟩, fun hl hX h0 => ?_⟩
  · have hk := hI.ok i o e (hget i o h1) (hθ i e h2)
    have hids := closedN_mem hcl i o h1
    cases o with
    | var cells =>
      obtain ⟨k1, b, cs, ty, k2, k3, k4⟩ := hk
      exact ⟨k1, b, cs, ty, k2, k3, takeL_ren k4 hids⟩
    | row t sz rows => exact hk
    | frz r cells => exact hk
    | mp k t es => exact hk
    | gone => trivial
  · refine ⟨hX.os, hX.tape, hX.output, hX.size, ⟨hX.le.rg, fun i e he => ?_⟩, hX.frame, fun b hb => ?_, hX.newrg⟩
    · obtain ⟨e', g1, g2⟩ := hX.le.θ i e he
      refine ⟨e', ?_, g2⟩
      show (C.θ.take τ.length)[i]? = some e'
      rw [List.getElem?_take, if_pos (by have := (List.getElem?_eq_some_iff.1 he).1; omega)]
      exact g1
    · obtain ⟨i, o, e, g1, g2, g3, g4⟩ := hb
      exact hX.lives b ⟨i, o, e, hget i o g1, g2, hθ i e g3, g4⟩

def dsIds : List Dfr → List Nat
  | [] => []
  | d :: l => AV.idsL d.args ++ dsIds l
theorem dsIds_mem : ∀ {l : List Dfr} {d : Dfr}, d ∈ l → ∀ i ∈ AV.idsL d.args, i ∈ dsIds l
  | x :: l, d, h, i, hi => by
    simp only [dsIds, List.mem_append]
    rcases List.mem_cons.1 h with rfl | h
    · exact .inl hi
    · exact .inr (dsIds_mem h i hi)

/-- S tells at least what I tells: fewer slots, fewer objects. -/
def Fits (S I : St) : Prop := fitsE I.env S.env ∧ S.n = I.n ∧ S.ds = I.ds ∧ (∃ ξ, S.σ = I.σ ++ ξ) ∧ (closedN I.σ.length I.σ && ltB I.σ.length (envIds I.env) && ltB I.σ.length (dsIds I.ds)) = true

theorem Fits.ok {w : World} {C : Cz} {a : Act} {S I : St} (h : Fits S I) (hI : Inv w C S.σ) (hE : EnvOk w C a S) :
    ∃ C', Inv w C' I.σ ∧ EnvOk w C' a I ∧ (∀ {w0 : World} {C0 : Cz} {σ0 : List AObj}, σ0.length ≤ I.σ.length → C0.θ.length = σ0.length → Ext w0 C0 σ0 w C S.σ → Ext w0 C0 σ0 w C' I.σ) := by
  obtain ⟨h1, h2, h3, ⟨ξ, h4⟩, h5⟩ := h
  simp only [Bool.and_eq_true] at h5
  obtain ⟨⟨c1, c2⟩, c3⟩ := h5
  obtain ⟨t1, t2⟩ := trunc hI h4 c1
  refine ⟨_, t1, ⟨hE.size.trans h2, fun t => ?_, by rw [← h3]; exact hE.dlen, fun i d x g1 g2 => ?_⟩, fun q1 q2 q3 => t2 q1 q3 q2⟩
  · rcases fitsE_get h1 t with e | e
    · rw [e]; exact .junk _
    · refine take_ren ?_ (fun i hi => ltB_mem c2 i (envIds_get t i hi))
      rw [e]; exact hE.env t
  · obtain ⟨cap, k1, k2⟩ := hE.ds i d x g1 (by rw [h3]; exact g2)
    exact ⟨cap, k1, takeL_ren k2 (fun j hj => ltB_mem c3 j (dsIds_mem (List.mem_of_getElem? g2) j hj))⟩

/-- A loop: at its head the state is one of a family. -/
theorem AW.loop {ρ : Nat} {c : Code} {S : St} {K : AEx → St → Prop} {ι : Type} (I : ι → St) (μ : ι → Nat) (i0 : ι) (N : Nat) (hN : ∀ i, (I i).σ.length = N) (hS : S.σ.length ≤ N) (h0 : Fits S (I i0))
    (round : ∀ i, AW P T ρ c (I i) (athen (fun S' => ∃ j, Fits S' (I j) ∧ μ j < μ i) K)) : AW P T ρ (.loop c) S K :=
  ⟨fun w C a hI hE => by
    obtain ⟨C1, i1, e1, x1⟩ := h0.ok hI hE
    intro b k cs
    have key : ∀ n i, μ i = n → ∀ (a : Act) (w1 : World) (C1 : Cz), Inv w1 C1 (I i).σ → EnvOk w1 C1 a (I i) → Ext w C S.σ w1 C1 (I i).σ →
        ∃ e a' w', Post w C S.σ K e a' w' ∧ Arrives P (lone (b.at a (.code c :: .inLoop c :: k)) cs w1) b k cs e a' w' := by
      intro n
      induction n using Nat.strongRecOn with
      | _ n ih =>
        intro i hn a w1 C1 hI1 hE1 hX1
        obtain ⟨e, a₁, w₁, ⟨z, S', C', hk, hx, hi', he', hx'⟩, harr⟩ := (round i).out w1 C1 a hI1 hE1 b (.inLoop c :: k) cs
        cases e <;> cases z <;> first | (exact hx.elim) | skip
        · obtain ⟨j, hfit, hlt⟩ := hk
          obtain ⟨C2, i2, e2, x2⟩ := hfit.ok hi' he'
          obtain ⟨e, a₂, w₂, hq₂, harr₂⟩ := ih (μ j) (hn ▸ hlt) j rfl a₁ w₁ C2 i2 e2 (x2 (by rw [hN]; exact hS) hI.len (hX1.trans hx'))
          exact ⟨e, a₂, w₂, hq₂, .of_steps (Steps.trans harr (.one step_inLoop)) harr₂⟩
        · exact ⟨_, a₁, w₁, ⟨_, S', C', hk, hx, hi', he', hX1.trans hx'⟩, .pass (x := .inLoop c) rfl (fun _ _ => .inl (by simp)) harr⟩
        · exact ⟨_, a₁, w₁, ⟨_, S', C', hk, hx, hi', he', hX1.trans hx'⟩, .pass (x := .inLoop c) rfl (fun _ _ => .inl (by simp)) harr⟩
        · exact ⟨_, a₁, w₁, ⟨_, S', C', hk, hx, hi', he', hX1.trans hx'⟩, .pass (x := .inLoop c) rfl (fun _ _ => .inl (by simp)) harr⟩
    obtain ⟨e, a', w', hq, harr⟩ := key _ i0 rfl a w C1 i1 e1 (x1 (by rw [hN]; exact hS) hI.len (.refl w C _))
    exact ⟨e, a', w', hq, .of_steps (.one step_loop) harr⟩⟩
/-! ### Functions -/
/-- The first values of the result variables. -/
def aResults (T : Tab) (env : List (Nat × Val)) (σ : List AObj) : List ResultVar → (List Val → Prop) → Prop
  | [], K => K []
  | .tmp t :: r, K => aResults T env σ r (fun vs => K (get env t :: vs))
  | .cell a t :: r, K => aLoad T σ t (get env a) (fun v _ => aResults T env σ r (fun vs => K (v :: vs)))

def oneOf : List Val → Val
  | [v] => v
  | vs => .tup vs

def aRet (R : Out → List AObj → Prop) (n : Nat) (ys : List Val) (σ : List AObj) : Prop :=
  bif ltB n (Val.idsL ys) && closedN n (σ.take n) && Nat.ble n σ.length then R (.ret (oneOf ys)) (σ.take n) else R (.ret (oneOf ys)) σ

def aPan (R : Out → List AObj → Prop) (n : Nat) (a : AV) (σ : List AObj) : Prop :=
  bif ltB n a.ids && closedN n (σ.take n) && Nat.ble n σ.length then R (.pan a) (σ.take n) else R (.pan a) σ

/-- A body without deferred calls ends. -/
def afin (T : Tab) (ρ f : Nat) (rs : List ResultVar) (n : Nat) (R : Out → List AObj → Prop) : AEx → St → Prop
  | .normal, ⟨_, env, σ, []⟩ => aResults T env σ rs (fun vs => aArgs ρ vs (T.rsl f) σ (fun ys σ' => aRet R n ys σ'))
  | .ret, ⟨_, env, σ, []⟩ => aResults T env σ rs (fun vs => aArgs ρ vs (T.rsl f) σ (fun ys σ' => aRet R n ys σ'))
  | .pan a, ⟨_, env, σ, []⟩ => frz1 ρ σ a none (fun d σ' => aPan R n (.d d) σ')
  | _, _ => False

theorem take_app {α : Type} (l : List α) (n : Nat) : l = l.take n ++ l.drop n := (List.take_append_drop n l).symm

theorem aRet_ok {w : World} {C : Cz} {σ : List AObj} (hI : Inv w C σ) {ys : List Val} {n : Nat} {R : Out → List AObj → Prop} (hk : aRet R n ys σ) {v : Value} (hv : RepV w C v (oneOf ys)) {w0 : World} {C0 : Cz} {σ0 : List AObj} (hn : σ0.length = n)
    (h0 : C0.θ.length = σ0.length) (hX : Ext w0 C0 σ0 w C σ) : ∃ o σ' C', R o σ' ∧ Inv w C' σ' ∧ Ext w0 C0 σ0 w C' σ' ∧ OutOk w C' (.returned v) o := by
  unfold aRet at hk
  cases hb : ltB n (Val.idsL ys) && closedN n (σ.take n) && Nat.ble n σ.length with
  | false => rw [hb] at hk; exact ⟨_, σ, C, hk, hI, hX, v, rfl, hv⟩
  | true =>
    rw [hb] at hk
    simp only [Bool.and_eq_true] at hb
    obtain ⟨⟨b1, b2⟩, b3⟩ := hb
    have hle : n ≤ σ.length := Nat.le_of_ble_eq_true b3
    have hl : (σ.take n).length = n := by rw [List.length_take]; omega
    obtain ⟨t1, t2⟩ := trunc hI (take_app σ n) (by rw [hl]; exact b2)
    refine ⟨_, σ.take n, _, hk, t1, t2 (by omega) hX h0, v, rfl, take_ren hv (fun i hi => ?_)⟩
    rw [hl]
    refine ltB_mem b1 i ?_
    unfold oneOf at hi
    split at hi
    · simpa [Val.idsL] using hi
    · simpa [Val.ids] using hi

def resV (tmps : Array Value) : ResultVar → Sem Value
  | .tmp t => pure (tmps.getD t undef)
  | .cell x t => do loadVar t (← asAddr (tmps.getD x undef))

include HT in
theorem aResults_ok {w : World} {C : Cz} {σ : List AObj} (hI : Inv w C σ) {a : Act} {S : St} (hE : EnvOk w C a S) : ∀ (rs : List ResultVar) {K : List Val → Prop}, aResults T S.env σ rs K →
    ∃ vs us, K vs ∧ (rs.mapM (resV a.tmps)).run P w = Result.ok us w ∧ RepVs w C us vs
  | [], K, hk => ⟨[], [], hk, by simp, ⟨rfl, fun i v x h => by simp at h⟩⟩
  | .tmp t :: r, K, hk => by
    obtain ⟨vs, us, k1, k2, k3⟩ := aResults_ok hI hE r hk
    refine ⟨_, a.tmps.getD t undef :: us, k1, ?_, .cons (hE.env t) k3⟩
    rw [List.mapM_cons]
    simp only [resV, Sem.run_bind, Sem.run_pure, Result.andThen_ok, k2]
  | .cell x t :: r, K, hk => by
    simp only [aResults] at hk
    obtain ⟨v, y, h1, h2, h3⟩ := ok_loadS (P := P) HT hI (hE.env x) (K := fun v _ => aResults T S.env σ r (fun vs => K (v :: vs))) hk
    obtain ⟨vs, us, k1, k2, k3⟩ := aResults_ok hI hE r h2
    refine ⟨_, v :: us, k1, ?_, .cons h3 k3⟩
    rw [List.mapM_cons]
    have hp : ∃ ad, a.tmps.getD x undef = .pointer (some ad) := by
      unfold aLoad at hk
      split at hk
      · exact hk.elim
      · split at hk
        · rename_i hx
          have hr := hE.env x
          rw [hx] at hr
          have hr := c_of hr
          generalize a.tmps.getD x undef = z at hr
          cases hr; exact ⟨_, rfl⟩
        · rename_i hx
          have hr := hE.env x
          rw [hx] at hr
          have hr := repA_d (c_of hr)
          generalize a.tmps.getD x undef = z at hr
          cases hr; exact ⟨_, rfl⟩
        · exact hk.elim
    have : (resV a.tmps (.cell x t)).run P w = .ok v w := by
      obtain ⟨ad, hp⟩ := hp
      rw [hp] at h1
      simp only [resV, hp, asAddr, Sem.run_bind, Sem.run_pure, Result.andThen_ok]
      simpa only [Instr.loadAt, Instr.sureAddr, Sem.run_bind, Sem.run_pure, Result.andThen_ok] using h1
    simp only [Sem.run_bind, this, Sem.run_pure, Result.andThen_ok, k2]

theorem one_tuple {w : World} {C : Cz} {us : List Value} {ys : List Val} (h : RepVs w C us ys) : RepV w C (if h : us.toArray.size = 1 then us.toArray[0] else .tuple us.toArray) (oneOf ys) := by
  obtain ⟨hl, hr⟩ := h
  match us, ys, hl with
  | [], [], _ => exact .tup _ _ rfl (fun i v x h1 h2 => by simp at h2)
  | [u], [y], _ => exact hr 0 u y rfl rfl
  | u1 :: u2 :: us, y1 :: y2 :: ys, hl =>
    have : (u1 :: u2 :: us).toArray.size ≠ 1 := by simp
    rw [dif_neg this]
    exact .tup _ _ (by simpa using hl) (fun i v x h1 h2 => hr i v x (by simpa using h1) h2)

theorem results_run {fn : Func} {tmps : Array Value} {w : World} {us : List Value} (h : (fn.results.toList.mapM (resV tmps)).run P w = Result.ok us w) :
    (results fn tmps).run P w = .ok (if h : us.toArray.size = 1 then us.toArray[0] else .tuple us.toArray) w := by
  unfold results
  have e : (fun x : ResultVar => (match x with | .tmp t => (pure (tmps.getD t undef) : Sem Value) | .cell a t => do loadVar t (← asAddr (tmps.getD a undef)))) = resV tmps := by
    funext x; cases x <;> rfl
  simp only [Sem.run_bind, Array.mapM_eq_mapM_toList]
  have : (fun x : ResultVar => (match x with | .tmp t => (pure (tmps.getD t undef) : Sem Value) | .cell a t => do loadVar t (← asAddr (tmps.getD a undef)))) = resV tmps := e
  erw [this]
  simp [h]

def env0 : Nat → List Val → List (Nat × Val)
  | _, [] => []
  | i, x :: xs => (i, x) :: env0 (i + 1) xs
theorem env0_get : ∀ (xs : List Val) (i t : Nat), get (env0 i xs) t = if i ≤ t then (xs[t - i]?).getD .junk else .junk
  | [], i, t => by simp [env0, get]
  | x :: xs, i, t => by
    rw [env0, get_cons, env0_get xs (i + 1) t]
    by_cases e : i = t
    · subst e; simp
    · rw [if_neg e]
      by_cases h : i + 1 ≤ t
      · rw [if_pos h, if_pos (by omega), show t - i = (t - (i + 1)) + 1 by omega, List.getElem?_cons_succ]
      · rw [if_neg h, if_neg (by omega)]

def start (fn : Func) (args : List Val) (σ : List AObj) : St := ⟨fn.ntmps, env0 0 args, σ, []⟩

theorem start_env {w : World} {C : Cz} {fn : Func} {args : List Val} {vs : Array Value} (h : RepVs w C vs.toList args) (hn : args.length ≤ fn.ntmps) (σ : List AObj) :
    EnvOk w C { tmps := vs ++ Array.replicate (fn.ntmps - vs.size) undef, defers := [] } (start fn args σ) := by
  have hl := h.1
  simp at hl
  refine ⟨by simp [start]; omega, fun t => ?_, rfl, fun i d x h1 h2 => by simp at h1⟩
  simp only [start, env0_get, Nat.zero_le, if_true, Nat.sub_zero]
  cases hx : args[t]? with
  | none => exact .junk _
  | some x =>
    have ht : t < vs.size := by have := (List.getElem?_eq_some_iff.1 hx).1; omega
    have : (vs ++ Array.replicate (fn.ntmps - vs.size) undef).getD t undef = vs[t] := by
      rw [Array.getD_eq_getD_getElem?, Array.getElem?_append_left ht, Array.getElem?_eq_getElem ht]; rfl
    rw [this]
    exact h.2 t _ x (by rw [Array.getElem?_toList]; exact Array.getElem?_eq_getElem ht) hx

include HT in
/-- A function without deferred calls: by its body. -/
theorem ACall.body {ρ f : Nat} {fn : Func} {c : Code} {N : Nat} {E : List (Nat × Val)} {rs : List ResultVar} (hf : P.funcs[f]? = some fn) (hb : fn.body = some c) (hN : fn.ntmps = N) (hr : fn.results.toList = rs)
    {args : List Val} {σ : List AObj} {R : Out → List AObj → Prop} (he : env0 0 args = E) (hn : Nat.ble args.length N = true)
    (h : AW P T ρ c ⟨N, E, σ, []⟩ (afin T ρ f rs σ.length R)) : ACall P f args σ R :=
  ⟨fun w C vs hI hv => by
    subst hN; subst hr; subst he
    refine calls_of_wp hf hb (wp_mono (h.out w C _ hI (start_env hv (Nat.le_of_ble_eq_true hn) σ)) ?_)
    rintro e a' w' ⟨x, ⟨n', env', σ', ds'⟩, C', hk, hx, hI', hE', hX⟩
    have fin : ds' = [] → aResults T env' σ' fn.results.toList (fun vs => aArgs ρ vs (T.rsl f) σ' (fun ys σ'' => aRet R σ.length ys σ'')) →
        a'.defers = [] ∧ ∃ v, (results fn a'.tmps).run P w' = .ok v w' ∧ ∃ o σ' C', R o σ' ∧ Inv w' C' σ' ∧ Ext w C σ w' C' σ' ∧ OutOk w' C' (.returned v) o := by
      intro hds hk2
      subst hds
      have hd0 : a'.defers = [] := List.eq_nil_of_length_eq_zero (by rw [hE'.dlen]; rfl)
      obtain ⟨vs', us, k1, k2, k3⟩ := aResults_ok HT hI' hE' _ hk2
      obtain ⟨C2, ys, σ2, q1, q2, q3, q4, q5⟩ := aArgs_ok ρ hI' k3 k1
      exact ⟨hd0, _, results_run k2, aRet_ok q3 q1 (one_tuple q5) rfl hI.len (hX.trans q4)⟩
    cases ds' with
    | cons _ _ => cases x <;> exact hk.elim
    | nil =>
    cases e <;> cases x <;> first | (exact hx.elim) | skip
    · exact fin rfl hk
    · exact hk.elim
    · exact fin rfl hk
    · obtain ⟨v, rfl, hr⟩ := hx
      simp only [afin] at hk
      have hd0 : a'.defers = [] := List.eq_nil_of_length_eq_zero (by rw [hE'.dlen]; rfl)
      obtain ⟨C2, d, σ2, q1, q2, q3, q4, q5⟩ := frz1_ok hI' ρ hr hk
      refine ⟨hd0, ?_⟩
      unfold aPan at q1
      cases hb : ltB σ.length (AV.d d).ids && closedN σ.length (σ2.take σ.length) && Nat.ble σ.length σ2.length with
      | false => rw [hb] at q1; exact ⟨_, σ2, C2, q1, q3, hX.trans q4, v, rfl, .d _ _ q5⟩
      | true =>
        rw [hb] at q1
        simp only [Bool.and_eq_true] at hb
        obtain ⟨⟨b1, b2⟩, b3⟩ := hb
        have hle : σ.length ≤ σ2.length := Nat.le_of_ble_eq_true b3
        have hl : (σ2.take σ.length).length = σ.length := by rw [List.length_take]; omega
        obtain ⟨t1, t2⟩ := trunc q3 (take_app σ2 σ.length) (by rw [hl]; exact b2)
        exact ⟨_, _, _, q1, t1, t2 (by omega) (hX.trans q4) hI.len, v, rfl, .d _ _ q5⟩⟩

end
end Go.Proofs.Ytdhkopangbgehaa.E
