/- The engine, part 13: a call that is handed some of the objects leaves the others alone. No conditions. -/
import Derived.Test.YtdhkopangbgehaaEng12
set_option linter.unusedVariables false
set_option linter.unusedSimpArgs false
namespace Go.Proofs.Ytdhkopangbgehaa.E
open Go

def noEnt : Ent := ⟨false, none, 0, .nilFunc⟩
def entOf (θ : List Ent) (i : Nat) : Ent := match θ[i]? with | some e => e | none => noEnt
def backE (L : List Nat) (θc : List Ent) : Nat → List Ent → List Ent
  | _, [] => θc.drop L.length
  | i, e :: θ => (match pos L i with | some k => entOf θc k | none => e) :: backE L θc (i + 1) θ

theorem backE_get (L : List Nat) (θc : List Ent) : ∀ (θ : List Ent) (i k : Nat), (backE L θc i θ)[k]? =
    if k < θ.length then (match pos L (i + k) with | some q => some (entOf θc q) | none => θ[k]?) else (θc.drop L.length)[k - θ.length]?
  | [], i, k => by simp [backE]
  | o :: θ, i, k => by
    cases k with
    | zero => simp [backE]; split <;> simp
    | succ k =>
      simp only [backE, List.getElem?_cons_succ, backE_get L θc θ (i + 1) k, List.length_cons]
      rw [show i + 1 + k = i + (k + 1) by omega]
      by_cases h : k < θ.length
      · rw [if_pos h, if_pos (by omega)]
      · rw [if_neg h, if_neg (by omega), show k + 1 - (θ.length + 1) = k - θ.length by omega]
theorem backE_len (L : List Nat) (θc : List Ent) : ∀ (θ : List Ent) (i : Nat), (backE L θc i θ).length = θ.length + (θc.length - L.length)
  | [], i => by simp [backE]
  | o :: θ, i => by simp [backE, backE_len L θc θ (i + 1)]; omega

theorem obj_eq {σ : List AObj} {i : Nat} {o : AObj} (h : σ[i]? = some o) : obj σ i = o := by simp [obj, h]
theorem ent_eq {θ : List Ent} {i : Nat} {e : Ent} (h : θ[i]? = some e) : entOf θ i = e := by simp [entOf, h]

section
variable {w : World} {C : Cz} {σ : List AObj} {L : List Nat}

/-- What the callee is told of where its objects lie. -/
def Cz.sub (C : Cz) (L : List Nat) : Cz := ⟨L.map (entOf C.θ), C.rg⟩

theorem sub_θ (hI : Inv w C σ) (hcl : closedB σ L L = true) {k i : Nat} (hk : L[k]? = some i) : ∃ e, C.θ[i]? = some e ∧ (C.sub L).θ[k]? = some e := by
  obtain ⟨o, ho, _⟩ := closedB_mem hcl i (List.mem_of_getElem? hk)
  have hlt : i < C.θ.length := by rw [hI.len]; exact (List.getElem?_eq_some_iff.1 ho).1
  refine ⟨C.θ[i], List.getElem?_eq_getElem hlt, ?_⟩
  simp only [Cz.sub, List.getElem?_map, hk, Option.map_some]
  rw [ent_eq (List.getElem?_eq_getElem hlt)]

theorem sub_ids (hI : Inv w C σ) (hcl : closedB σ L L = true) {i : Nat} (hi : i ∈ L) {e : Ent} (he : C.θ[i]? = some e) : (C.sub L).θ[idx L i]? = some e := by
  obtain ⟨k, hk⟩ := pos_mem hi
  obtain ⟨e', h1, h2⟩ := sub_θ hI hcl (pos_some hk)
  rw [he] at h1; cases h1
  simp only [idx, hk]
  exact h2

theorem sub_inv (hI : Inv w C σ) (hnd : nodupB L = true) (hcl : closedB σ L L = true) : Inv w (C.sub L) (sub σ L L) := by
  have hget : ∀ (k : Nat) o, (E.sub σ L L)[k]? = some o → ∃ i p, L[k]? = some i ∧ σ[i]? = some p ∧ o = p.ren (idx L) ∧ ∀ j ∈ p.ids, j ∈ L := fun k o ho => by
    rw [sub_get] at ho
    cases hi : L[k]? with
    | none => rw [hi] at ho; cases ho
    | some i =>
      rw [hi] at ho
      obtain ⟨p, hp, hids⟩ := closedB_mem hcl i (List.mem_of_getElem? hi)
      simp only [Option.map_some, Option.some.injEq] at ho
      rw [obj_eq hp] at ho
      exact ⟨i, p, rfl, hp, ho.symm, hids⟩
  refine ⟨by simp [Cz.sub, sub_len], fun k o e ho he => ?_, fun k o e b ho hl he hb => ?_, fun k k' o p e f b ho hp hlo hlp he hf hb hb' => ?_, hI.rgs⟩
  · obtain ⟨i, p, hi, hp, rfl, hids⟩ := hget k o ho
    obtain ⟨e', h1, h2⟩ := sub_θ hI hcl hi
    rw [he] at h2; cases h2
    exact (hI.ok i p e hp h1).ren rfl (fun j hj e he => sub_ids hI hcl (hids j hj) he)
  · obtain ⟨i, p, hi, hp, rfl, hids⟩ := hget k o ho
    obtain ⟨e', h1, h2⟩ := sub_θ hI hcl hi
    rw [he] at h2; cases h2
    rw [AObj.live_ren] at hl
    exact hI.unrg i p e b hp hl h1 hb
  · obtain ⟨i, p1, hi, hp1, rfl, _⟩ := hget k o ho
    obtain ⟨j, p2, hj, hp2, rfl, _⟩ := hget k' p hp
    obtain ⟨e1, g1, g2⟩ := sub_θ hI hcl hi
    obtain ⟨e2, g3, g4⟩ := sub_θ hI hcl hj
    rw [he] at g2; cases g2
    rw [hf] at g4; cases g4
    rw [AObj.live_ren] at hlo hlp
    have := hI.apart i j p1 p2 e f b hp1 hp2 hlo hlp g1 g3 hb hb'
    subst this
    exact nodupB_inj hnd hi hj

theorem sub_lives (hI : Inv w C σ) (hcl : closedB σ L L = true) {b : Nat} (h : Lives (C.sub L) (sub σ L L) b) : ∃ i ∈ L, ∃ o e, σ[i]? = some o ∧ o.live = true ∧ C.θ[i]? = some e ∧ e.b = some b := by
  obtain ⟨k, o, e, h1, h2, h3, h4⟩ := h
  rw [sub_get] at h1
  cases hi : L[k]? with
  | none => rw [hi] at h1; cases h1
  | some i =>
    rw [hi] at h1
    obtain ⟨p, hp, _⟩ := closedB_mem hcl i (List.mem_of_getElem? hi)
    simp only [Option.map_some, Option.some.injEq] at h1
    rw [obj_eq hp] at h1
    subst h1
    rw [AObj.live_ren] at h2
    obtain ⟨e', g1, g2⟩ := sub_θ hI hcl hi
    rw [h3] at g2; cases g2
    exact ⟨i, List.mem_of_getElem? hi, p, e, hp, h2, g1, h4⟩

/-- Behind the call: where all objects lie. -/
def Cz.back (C : Cz) (L : List Nat) (C' : Cz) : Cz := ⟨backE L C'.θ 0 C.θ, C'.rg⟩

theorem back_all {w' : World} {Cc : Cz} {σc : List AObj} (hI : Inv w C σ) (hnd : nodupB L = true) (hcl : closedB σ L L = true) (hI' : Inv w' Cc σc) (hE : Ext w (C.sub L) (sub σ L L) w' Cc σc) :
    (∀ j e, Cc.θ[j]? = some e → (C.back L Cc).θ[un L σ.length j]? = some e) ∧ CzLe w C w' (C.back L Cc) ∧ Inv w' (C.back L Cc) (back L σ.length σc 0 σ) ∧ Ext w C σ w' (C.back L Cc) (back L σ.length σc 0 σ) := by
  have hn := hI.len
  have hn' := hI'.len
  -- the callee's objects are all still there
  have hLlen : L.length ≤ Cc.θ.length := by
    rcases Nat.eq_zero_or_pos L.length with h0 | h0
    · omega
    · have : (C.sub L).θ[L.length - 1]? = some (entOf C.θ L[L.length - 1]) := by
        simp only [Cz.sub, List.getElem?_map]
        rw [List.getElem?_eq_getElem (by omega)]; rfl
      obtain ⟨e', h1, _⟩ := hE.le.θ _ _ this
      have := (List.getElem?_eq_some_iff.1 h1).1
      omega
  have hθ : ∀ j e, Cc.θ[j]? = some e → (C.back L Cc).θ[un L σ.length j]? = some e := fun j e he => by
    have hj := (List.getElem?_eq_some_iff.1 he).1
    simp only [Cz.back, backE_get, un]
    cases hL : L[j]? with
    | some i =>
      obtain ⟨o, ho, _⟩ := closedB_mem hcl i (List.mem_of_getElem? hL)
      have hi := (List.getElem?_eq_some_iff.1 ho).1
      simp only
      rw [if_pos (by omega), Nat.zero_add, nodup_pos hnd hL]
      simp only
      rw [ent_eq he]
    | none =>
      have hge : L.length ≤ j := by
        rcases Nat.lt_or_ge j L.length with h | h
        · rw [List.getElem?_eq_getElem h] at hL; cases hL
        · exact h
      simp only
      rw [if_neg (by omega), List.getElem?_drop, ← he]
      congr 1; omega
  have hfr : ∀ i, i < σ.length → pos L i = none → ∀ o e b, σ[i]? = some o → o.live = true → C.θ[i]? = some e → e.b = some b → b < w.heap.size ∧ ¬ Lives (C.sub L) (E.sub σ L L) b ∧ C.rg b = none := fun i _ hp o e b ho hl he hb => by
    refine ⟨live_block (hI.ok i o e ho he) hl hb, fun hlv => ?_, (hI.unrg i o e b ho hl he hb).1⟩
    obtain ⟨j, hj, p, f, g1, g2, g3, g4⟩ := sub_lives hI hcl hlv
    have := hI.apart i j o p e f b ho g1 hl g2 he g3 hb g4
    subst this
    exact pos_none hp hj
  have hle : CzLe w C w' (C.back L Cc) := ⟨fun b r hb => hE.le.rg b r hb, fun i e he => by
    have hi := (List.getElem?_eq_some_iff.1 he).1
    cases hp : pos L i with
    | none =>
      refine ⟨e, ?_, .refl e⟩
      simp only [Cz.back, backE_get]
      rw [if_pos (by omega), Nat.zero_add, hp]; exact he
    | some k =>
      obtain ⟨e1, g1, g2⟩ := sub_θ hI hcl (pos_some hp)
      rw [he] at g1; cases g1
      obtain ⟨e2, q1, q2⟩ := hE.le.θ k e g2
      have := hθ k e2 q1
      simp only [un, pos_some hp] at this
      exact ⟨e2, this, q2⟩⟩
  -- an object behind the call: the callee's, or one that was not handed over
  have hcase : ∀ (i : Nat) o e, (back L σ.length σc 0 σ)[i]? = some o → (C.back L Cc).θ[i]? = some e →
      (∃ k p, σc[k]? = some p ∧ Cc.θ[k]? = some e ∧ o = p.ren (un L σ.length) ∧ i = un L σ.length k) ∨ (i < σ.length ∧ pos L i = none ∧ σ[i]? = some o ∧ C.θ[i]? = some e) := fun i o e ho he => by
    simp only [back_get, Cz.back, backE_get] at ho he
    by_cases hi : i < σ.length
    · rw [if_pos hi, Nat.zero_add] at ho
      rw [if_pos (by omega), Nat.zero_add] at he
      cases hp : pos L i with
      | none => rw [hp] at ho he; exact .inr ⟨hi, rfl, ho, he⟩
      | some k =>
        rw [hp] at ho he
        simp only [Option.some.injEq] at ho he
        have hk : k < L.length := (List.getElem?_eq_some_iff.1 (pos_some hp)).1
        have h1 : σc[k]? = some (σc[k]'(by omega)) := List.getElem?_eq_getElem _
        have h2 : Cc.θ[k]? = some (Cc.θ[k]'(by omega)) := List.getElem?_eq_getElem _
        rw [obj_eq h1] at ho
        rw [ent_eq h2] at he
        exact .inl ⟨k, _, h1, by rw [h2, he], ho.symm, by simp [un, pos_some hp]⟩
    · rw [if_neg hi, List.getElem?_drop] at ho
      rw [if_neg (by omega), List.getElem?_drop] at he
      cases hq : σc[L.length + (i - σ.length)]? with
      | none => rw [hq] at ho; cases ho
      | some p =>
        rw [hq] at ho
        cases ho
        refine .inl ⟨_, p, hq, by rw [← he]; congr 1; omega, rfl, ?_⟩
        have : L[L.length + (i - σ.length)]? = none := List.getElem?_eq_none (by omega)
        simp only [un, this]
        omega
  have hlv : ∀ b, Lives (C.back L Cc) (back L σ.length σc 0 σ) b → Lives Cc σc b ∨ (∃ (i : Nat) (o : AObj) (e : Ent), i < σ.length ∧ pos L i = none ∧ σ[i]? = some o ∧ o.live = true ∧ C.θ[i]? = some e ∧ e.b = some b) := fun b hb => by
    obtain ⟨i, o, e, h1, h2, h3, h4⟩ := hb
    rcases hcase i o e h1 h3 with ⟨k, p, q1, q2, rfl, _⟩ | ⟨q0, q1, q2, q3⟩
    · rw [AObj.live_ren] at h2; exact .inl ⟨k, p, e, q1, h2, q2, h4⟩
    · exact .inr ⟨i, o, e, q0, q1, q2, h2, q3, h4⟩
  have hsubl : ∀ b, Lives (C.sub L) (E.sub σ L L) b → Lives C σ b := fun b hb => by
    obtain ⟨i, _, o, e, h1, h2, h3, h4⟩ := sub_lives hI hcl hb
    exact ⟨i, o, e, h1, h2, h3, h4⟩
  have hun : ∀ i o e b, i < σ.length → pos L i = none → σ[i]? = some o → o.live = true → C.θ[i]? = some e → e.b = some b → Cc.rg b = none ∧ ¬ Lives Cc σc b ∧ b < w'.heap.size := fun i o e b hi hp ho hl he hb => by
    obtain ⟨f1, f2, f3⟩ := hfr i hi hp o e b ho hl he hb
    refine ⟨?_, fun hl' => ?_, Nat.lt_of_lt_of_le f1 hE.size⟩
    · cases hr : Cc.rg b with
      | none => rfl
      | some r =>
        rcases hE.newrg b r hr with h | h | h
        · rw [show (C.sub L).rg = C.rg from rfl, f3] at h; cases h
        · exact absurd h f2
        · omega
    · rcases hE.lives b hl' with h | h
      · exact f2 h
      · omega
  refine ⟨hθ, hle, ⟨by simp only [Cz.back]; rw [backE_len, back_len]; omega, fun i o e ho he => ?_, fun i o e b ho hl he hb => ?_, fun i j o p e f b ho hp hlo hlp he hf hb hb' => ?_, hI'.rgs⟩,
    ⟨hE.os, hE.tape, hE.output, hE.size, hle, fun b hb hnl => hE.frame b hb (fun h => hnl (hsubl b h)), fun b hb => ?_, fun b r hb => ?_⟩⟩
  · rcases hcase i o e ho he with ⟨k, p, q1, q2, rfl, _⟩ | ⟨q0, q1, q2, q3⟩
    · exact (hI'.ok k p e q1 q2).ren rfl (fun j _ e he => hθ j e he)
    · refine (hI.ok i o e q2 q3).keep hle (fun hl b hb => ?_)
      obtain ⟨f1, f2, f3⟩ := hfr i q0 q1 o e b q2 hl q3 hb
      exact hE.frame b f1 f2
  · rcases hcase i o e ho he with ⟨k, p, q1, q2, rfl, _⟩ | ⟨q0, q1, q2, q3⟩
    · rw [AObj.live_ren] at hl
      exact hI'.unrg k p e b q1 hl q2 hb
    · have := hun i o e b q0 q1 q2 hl q3 hb
      exact ⟨this.1, this.2.2⟩
  · rcases hcase i o e ho he with ⟨k, q, q1, q2, rfl, q3⟩ | ⟨q0, q1, q2, q3⟩ <;> rcases hcase j p f hp hf with ⟨k', q', r1, r2, rfl, r3⟩ | ⟨r0, r1, r2, r3⟩
    · rw [AObj.live_ren] at hlo hlp
      have := hI'.apart k k' q q' e f b q1 r1 hlo hlp q2 r2 hb hb'
      subst this
      rw [q3, r3]
    · rw [AObj.live_ren] at hlo
      exact absurd ⟨k, q, e, q1, hlo, q2, hb⟩ (hun j p f b r0 r1 r2 hlp r3 hb').2.1
    · rw [AObj.live_ren] at hlp
      exact absurd ⟨k', q', f, r1, hlp, r2, hb'⟩ (hun i o e b q0 q1 q2 hlo q3 hb).2.1
    · exact hI.apart i j o p e f b q2 r2 hlo hlp q3 r3 hb hb'
  · rcases hlv b hb with h | ⟨i, o, e, _, _, h1, h2, h3, h4⟩
    · rcases hE.lives b h with h | h
      · exact .inl (hsubl b h)
      · exact .inr h
    · exact .inl ⟨i, o, e, h1, h2, h3, h4⟩
  · rcases hE.newrg b r hb with h | h | h
    · exact .inl h
    · exact .inr (.inl (hsubl b h))
    · exact .inr (.inr h)

/-- A call, by a contract on the objects that it is handed. -/
theorem call_frame {P : Program} {f : FuncId} {args : List Val} {vs : Array Value} (hI : Inv w C σ) (hnd : nodupB L = true) (hcl : closedB σ L L = true) (hargs : RepVs w C vs.toList args) (hsub : subB L (Val.idsL args) = true)
    {K : Out → List AObj → Prop}
    (h : ACall P f (Val.renL (idx L) args) (sub σ L L) fun o σc => match o with
      | .ret v => K (.ret (v.ren (un L σ.length))) (back L σ.length σc 0 σ)
      | .pan a => K (.pan (a.ren (un L σ.length))) (back L σ.length σc 0 σ)) :
    Calls P f vs w fun e w' => ∃ o σ' C', K o σ' ∧ Inv w' C' σ' ∧ Ext w C σ w' C' σ' ∧ OutOk w' C' e o := by
  have hmem := subB_mem hsub
  have hargs' : RepVs w (C.sub L) vs.toList (Val.renL (idx L) args) := by
    rw [vrenL_map]
    refine ⟨by simpa using hargs.1, fun i v x h1 h2 => ?_⟩
    rw [List.getElem?_map] at h2
    cases hy : args[i]? with
    | none => rw [hy] at h2; cases h2
    | some y =>
      rw [hy] at h2; cases h2
      exact (hargs.2 i v y h1 hy).ren rfl (fun j hj e he => sub_ids hI hcl (hmem j (vidsL_mem (List.mem_of_getElem? hy) j hj)) he)
  refine (h.out w (C.sub L) vs (sub_inv hI hnd hcl) hargs').mono ?_
  rintro e w' ⟨o, σc, Cc, hK, hI', hE, hO⟩
  obtain ⟨b1, b2, b3, b4⟩ := back_all hI hnd hcl hI' hE
  cases o with
  | ret x =>
    obtain ⟨v, rfl, hr⟩ := hO
    exact ⟨_, _, _, hK, b3, b4, v, rfl, hr.ren rfl (fun j _ e he => b1 j e he)⟩
  | pan a =>
    obtain ⟨v, rfl, hr⟩ := hO
    exact ⟨_, _, _, hK, b3, b4, v, rfl, hr.ren rfl (fun j _ e he => b1 j e he)⟩

/-- A call that is handed no object, and leaves none. -/
theorem call_pure {P : Program} {f : FuncId} {args : List Val} {vs : Array Value} (hI : Inv w C σ) (hargs : RepVs w C vs.toList args) (hsub : Val.idsL args = []) {K : Out → List AObj → Prop}
    (h : ACall P f args [] fun o σc => match σc with | [] => K o σ | _ :: _ => False) :
    Calls P f vs w fun e w' => ∃ o σ' C', K o σ' ∧ Inv w' C' σ' ∧ Ext w C σ w' C' σ' ∧ OutOk w' C' e o := by
  have hargs' : RepVs w (C.sub []) vs.toList args := ⟨hargs.1, fun i v x h1 h2 => by
    have hno : ∀ j ∈ x.ids, False := fun j hj => by
      have := vidsL_mem (List.mem_of_getElem? h2) j hj
      rw [hsub] at this; simp at this
    -- nothing is mentioned: other numbers change nothing
    have key : ∀ (v : Value) (x : Val), RepV w C v x → (∀ j ∈ x.ids, False) → RepV w (C.sub []) v x := by
      intro v x hx
      have keyA : ∀ (v : Value) (a : AV), RepA w C v a → (∀ j ∈ a.ids, False) → RepA w (C.sub []) v a := by
        intro v a ha
        induction ha with
        | d v x h => intro _; exact .d v x h
        | ptr o off b e he hr hb => intro H; exact (H o (by simp [AV.ids])).elim
        | own o n e he hr hn A c hv => intro H; exact (H o (by simp [AV.ids])).elim
        | rowp o n k e he hr hn b hv => intro H; exact (H o (by simp [AV.ids])).elim
        | emp A => intro _; exact .emp A
        | full A n r sz rows hn h => intro _; exact .full A n r sz rows hn h
        | mp o b e he hr hb => intro H; exact (H o (by simp [AV.ids])).elim
        | fn g fs cs first cap vf vc h1 h2 g1 g2 r1 r2 i1 i2 =>
          intro H
          exact .fn g fs cs first cap vf vc h1 h2 g1 g2 (fun i x hx => i1 i x hx (fun j hj => H j (by simp only [AV.ids, List.mem_append]; exact .inl (idsL_mem (List.mem_of_getElem? hx) j hj))))
            (fun i x hx => i2 i x hx (fun j hj => H j (by simp only [AV.ids, List.mem_append]; exact .inr (idsL_mem (List.mem_of_getElem? hx) j hj))))
        | ifc t v x h ih => intro H; exact .ifc t v x (ih (fun j hj => H j (by simpa [AV.ids] using hj)))
        | ifa t arr cells vs hs hcell hrep ih =>
          intro H
          exact .ifa t arr cells vs hs hcell (fun i x hx => ih i x hx (fun j hj => H j (by simp only [AV.ids]; exact idsL_mem (List.mem_of_getElem? hx) j hj)))
      induction hx with
      | c v a h => intro H; exact .c v a (keyA v a h (by simpa [Val.ids] using H))
      | agg arr cells h => intro H; exact .agg arr cells ⟨h.1, fun i v a h1 h2 => keyA v a (h.2 i v a h1 h2) (fun j hj => H j (by simp only [Val.ids]; exact idsL_mem (List.mem_of_getElem? h2) j hj))⟩
      | tup arr vs hs h ih => intro H; exact .tup arr vs hs (fun i v x h1 h2 => ih i v x h1 h2 (fun j hj => H j (by simp only [Val.ids]; exact vidsL_mem (List.mem_of_getElem? h2) j hj)))
      | junk v => intro _; exact .junk v
    exact key v x (hargs.2 i v x h1 h2) hno⟩
  refine (h.out w (C.sub []) vs (sub_inv (L := []) hI rfl rfl) hargs').mono ?_
  rintro e w' ⟨o, σc, Cc, hK, hI', hE, hO⟩
  cases σc with
  | cons _ _ => exact hK.elim
  | nil =>
    obtain ⟨b1, b2, b3, b4⟩ := back_all (L := []) hI rfl rfl hI' hE
    have hθ0 : Cc.θ = [] := List.eq_nil_of_length_eq_zero hI'.len
    have hle : CzLe w' Cc w' (C.back [] Cc) := ⟨fun b r hb => ⟨hb, rfl⟩, fun i e he => by rw [hθ0] at he; simp at he⟩
    have hback : back [] σ.length [] 0 σ = σ := by
      have : ∀ (i : Nat) (τ : List AObj), back [] σ.length [] i τ = τ := by
        intro i τ
        induction τ generalizing i with
        | nil => rfl
        | cons o τ ih => simp [back, pos, ih]
      exact this 0 σ
    rw [hback] at b3 b4
    cases o with
    | ret x =>
      obtain ⟨v, rfl, hr⟩ := hO
      exact ⟨_, _, _, hK, b3, b4, v, rfl, hr.mono hle⟩
    | pan a =>
      obtain ⟨v, rfl, hr⟩ := hO
      exact ⟨_, _, _, hK, b3, b4, v, rfl, hr.mono hle⟩

end
end Go.Proofs.Ytdhkopangbgehaa.E
