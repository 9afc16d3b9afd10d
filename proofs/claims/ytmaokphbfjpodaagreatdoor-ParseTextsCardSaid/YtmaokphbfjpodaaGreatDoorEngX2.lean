/- The engine's texts, merged (2 of 3): data for values, objects, contracts of calls, rules for the code. No conditions. -/
import Derived.Test.YtmaokphbfjpodaaGreatDoorEngX1
import Derived.Laws.MakeOwn
import Derived.Laws.StructEq
import Derived.ChangeKeysEq
import Derived.MapKept
import Derived.Lib.OthersKept
import Derived.Maps.RangeRun
import Derived.Lib.AppendStr
import Derived.Laws.BytesArg
import Derived.Laws.Runes
import Derived.Orders
/- The engine, part 13: a call that is handed some of the objects leaves the others alone. No conditions. -/
set_option linter.unusedVariables false
set_option linter.unusedSimpArgs false
namespace Go.Proofs.YtmaokphbfjpodaaGreatDoor.E
open Go

def noEnt : Ent := ⟨false, none, 0, .nilFunc⟩
def entOf (θ : List Ent) (i : Nat) : Ent := match θ[i]? with | some e => e | none => noEnt
def backE (L : List Nat) (θc : List Ent) : Nat → List Ent → List Ent
  | _, [] => θc.drop L.length
  | i, e :: θ => (match pos L i with | some k => entOf θc k | none => e) :: backE L θc (i + 1) θ

theorem backE_get (L : List Nat) (θc : List Ent) : ∀ (θ : List Ent) (i k : Nat), (backE L θc i θ)[k]? =
    if k < θ.length then (match pos L (i + k) with | some q => some (entOf θc q) | none => θ[k]?) else (θc.drop L.length)[k - θ.length]?
  | [], i, k => by simp [backE]
  | o :: θ, i, k => by
    cases k with
    | zero => simp [backE]; split <;> simp
    | succ k =>
      simp only [backE, List.getElem?_cons_succ, backE_get L θc θ (i + 1) k, List.length_cons]
      rw [show i + 1 + k = i + (k + 1) by omega]
      by_cases h : k < θ.length
      · rw [if_pos h, if_pos (by omega)]
      · rw [if_neg h, if_neg (by omega), show k + 1 - (θ.length + 1) = k - θ.length by omega]
theorem backE_len (L : List Nat) (θc : List Ent) : ∀ (θ : List Ent) (i : Nat), (backE L θc i θ).length = θ.length + (θc.length - L.length)
  | [], i => by simp [backE]
  | o :: θ, i => by simp [backE, backE_len L θc θ (i + 1)]; omega

theorem obj_eq {σ : List AObj} {i : Nat} {o : AObj} (h : σ[i]? = some o) : obj σ i = o := by simp [obj, h]
theorem ent_eq {θ : List Ent} {i : Nat} {e : Ent} (h : θ[i]? = some e) : entOf θ i = e := by simp [entOf, h]

section
variable {w : World} {C : Cz} {σ : List AObj} {L : List Nat}

/-- What the callee is told of where its objects lie. -/
def Cz.sub (C : Cz) (L : List Nat) : Cz := ⟨L.map (entOf C.θ), C.rg⟩

theorem sub_θ (hI : Inv w C σ) (hcl : closedB σ L L = true) {k i : Nat} (hk : L[k]? = some i) : ∃ e, C.θ[i]? = some e ∧ (C.sub L).θ[k]? = some e := by
  obtain ⟨o, ho, _⟩ := closedB_mem hcl i (List.mem_of_getElem? hk)
  have hlt : i < C.θ.length := by rw [hI.len]; exact (List.getElem?_eq_some_iff.1 ho).1
  refine ⟨C.θ[i], List.getElem?_eq_getElem hlt, ?_⟩
  simp only [Cz.sub, List.getElem?_map, hk, Option.map_some]
  rw [ent_eq (List.getElem?_eq_getElem hlt)]

theorem sub_ids (hI : Inv w C σ) (hcl : closedB σ L L = true) {i : Nat} (hi : i ∈ L) {e : Ent} (he : C.θ[i]? = some e) : (C.sub L).θ[idx L i]? = some e := by
  obtain ⟨k, hk⟩ := pos_mem hi
  obtain ⟨e', h1, h2⟩ := sub_θ hI hcl (pos_some hk)
  rw [he] at h1; cases h1
  simp only [idx, hk]
  exact h2

theorem sub_inv (hI : Inv w C σ) (hnd : nodupB L = true) (hcl : closedB σ L L = true) : Inv w (C.sub L) (sub σ L L) := by
  have hget : ∀ (k : Nat) o, (E.sub σ L L)[k]? = some o → ∃ i p, L[k]? = some i ∧ σ[i]? = some p ∧ o = p.ren (idx L) ∧ ∀ j ∈ p.ids, j ∈ L := fun k o ho => by
    rw [sub_get] at ho
    cases hi : L[k]? with
    | none => rw [hi] at ho; cases ho
    | some i =>
      rw [hi] at ho
      obtain ⟨p, hp, hids⟩ := closedB_mem hcl i (List.mem_of_getElem? hi)
      simp only [Option.map_some, Option.some.injEq] at ho
      rw [obj_eq hp] at ho
      exact ⟨i, p, rfl, hp, ho.symm, hids⟩
  refine ⟨by simp [Cz.sub, sub_len], fun k o e ho he => ?_, fun k o e b ho hl he hb => ?_, fun k k' o p e f b ho hp hlo hlp he hf hb hb' => ?_, hI.rgs, hI.glb⟩
  · obtain ⟨i, p, hi, hp, rfl, hids⟩ := hget k o ho
    obtain ⟨e', h1, h2⟩ := sub_θ hI hcl hi
    rw [he] at h2; cases h2
    exact (hI.ok i p e hp h1).ren rfl (fun j hj e he => sub_ids hI hcl (hids j hj) he)
  · obtain ⟨i, p, hi, hp, rfl, hids⟩ := hget k o ho
    obtain ⟨e', h1, h2⟩ := sub_θ hI hcl hi
    rw [he] at h2; cases h2
    rw [AObj.live_ren] at hl
    exact hI.unrg i p e b hp hl h1 hb
  · obtain ⟨i, p1, hi, hp1, rfl, _⟩ := hget k o ho
    obtain ⟨j, p2, hj, hp2, rfl, _⟩ := hget k' p hp
    obtain ⟨e1, g1, g2⟩ := sub_θ hI hcl hi
    obtain ⟨e2, g3, g4⟩ := sub_θ hI hcl hj
    rw [he] at g2; cases g2
    rw [hf] at g4; cases g4
    rw [AObj.live_ren] at hlo hlp
    have := hI.apart i j p1 p2 e f b hp1 hp2 hlo hlp g1 g3 hb hb'
    subst this
    exact nodupB_inj hnd hi hj

theorem sub_lives (hI : Inv w C σ) (hcl : closedB σ L L = true) {b : Nat} (h : Lives (C.sub L) (sub σ L L) b) : ∃ i ∈ L, ∃ o e, σ[i]? = some o ∧ o.live = true ∧ C.θ[i]? = some e ∧ e.b = some b := by
  obtain ⟨k, o, e, h1, h2, h3, h4⟩ := h
  rw [sub_get] at h1
  cases hi : L[k]? with
  | none => rw [hi] at h1; cases h1
  | some i =>
    rw [hi] at h1
    obtain ⟨p, hp, _⟩ := closedB_mem hcl i (List.mem_of_getElem? hi)
    simp only [Option.map_some, Option.some.injEq] at h1
    rw [obj_eq hp] at h1
    subst h1
    rw [AObj.live_ren] at h2
    obtain ⟨e', g1, g2⟩ := sub_θ hI hcl hi
    rw [h3] at g2; cases g2
    exact ⟨i, List.mem_of_getElem? hi, p, e, hp, h2, g1, h4⟩

/-- Behind the call: where all objects lie. -/
def Cz.back (C : Cz) (L : List Nat) (C' : Cz) : Cz := ⟨backE L C'.θ 0 C.θ, C'.rg⟩

theorem back_all {w' : World} {Cc : Cz} {σc : List AObj} (hI : Inv w C σ) (hnd : nodupB L = true) (hcl : closedB σ L L = true) (hI' : Inv w' Cc σc) (hE : Ext w (C.sub L) (sub σ L L) w' Cc σc) :
    (∀ j e, Cc.θ[j]? = some e → (C.back L Cc).θ[un L σ.length j]? = some e) ∧ CzLe w C w' (C.back L Cc) ∧ Inv w' (C.back L Cc) (back L σ.length σc 0 σ) ∧ Ext w C σ w' (C.back L Cc) (back L σ.length σc 0 σ) := by
  have hn := hI.len
  have hn' := hI'.len
  -- the callee's objects are all still there
  have hLlen : L.length ≤ Cc.θ.length := by
    rcases Nat.eq_zero_or_pos L.length with h0 | h0
    · omega
    · have : (C.sub L).θ[L.length - 1]? = some (entOf C.θ L[L.length - 1]) := by
        simp only [Cz.sub, List.getElem?_map]
        rw [List.getElem?_eq_getElem (by omega)]; rfl
      obtain ⟨e', h1, _⟩ := hE.le.θ _ _ this
      have := (List.getElem?_eq_some_iff.1 h1).1
      omega
  have hθ : ∀ j e, Cc.θ[j]? = some e → (C.back L Cc).θ[un L σ.length j]? = some e := fun j e he => by
    have hj := (List.getElem?_eq_some_iff.1 he).1
    simp only [Cz.back, backE_get, un]
    cases hL : L[j]? with
    | some i =>
      obtain ⟨o, ho, _⟩ := closedB_mem hcl i (List.mem_of_getElem? hL)
      have hi := (List.getElem?_eq_some_iff.1 ho).1
      simp only
      rw [if_pos (by omega), Nat.zero_add, nodup_pos hnd hL]
      simp only
      rw [ent_eq he]
    | none =>
      have hge : L.length ≤ j := by
        rcases Nat.lt_or_ge j L.length with h | h
        · rw [List.getElem?_eq_getElem h] at hL; cases hL
        · exact h
      simp only
      rw [if_neg (by omega), List.getElem?_drop, ← he]
      congr 1; omega
  have hfr : ∀ i, i < σ.length → pos L i = none → ∀ o e b, σ[i]? = some o → o.live = true → C.θ[i]? = some e → e.b = some b → b < w.heap.size ∧ ¬ Lives (C.sub L) (E.sub σ L L) b ∧ C.rg b = none := fun i _ hp o e b ho hl he hb => by
    refine ⟨live_block (hI.ok i o e ho he) hl hb, fun hlv => ?_, (hI.unrg i o e b ho hl he hb).1⟩
    obtain ⟨j, hj, p, f, g1, g2, g3, g4⟩ := sub_lives hI hcl hlv
    have := hI.apart i j o p e f b ho g1 hl g2 he g3 hb g4
    subst this
    exact pos_none hp hj
  have hle : CzLe w C w' (C.back L Cc) := ⟨fun b r hb => hE.le.rg b r hb, fun i e he => by
    have hi := (List.getElem?_eq_some_iff.1 he).1
    cases hp : pos L i with
    | none =>
      refine ⟨e, ?_, .refl e⟩
      simp only [Cz.back, backE_get]
      rw [if_pos (by omega), Nat.zero_add, hp]; exact he
    | some k =>
      obtain ⟨e1, g1, g2⟩ := sub_θ hI hcl (pos_some hp)
      rw [he] at g1; cases g1
      obtain ⟨e2, q1, q2⟩ := hE.le.θ k e g2
      have := hθ k e2 q1
      simp only [un, pos_some hp] at this
      exact ⟨e2, this, q2⟩⟩
  -- an object behind the call: the callee's, or one that was not handed over
  have hcase : ∀ (i : Nat) o e, (back L σ.length σc 0 σ)[i]? = some o → (C.back L Cc).θ[i]? = some e →
      (∃ k p, σc[k]? = some p ∧ Cc.θ[k]? = some e ∧ o = p.ren (un L σ.length) ∧ i = un L σ.length k) ∨ (i < σ.length ∧ pos L i = none ∧ σ[i]? = some o ∧ C.θ[i]? = some e) := fun i o e ho he => by
    simp only [back_get, Cz.back, backE_get] at ho he
    by_cases hi : i < σ.length
    · rw [if_pos hi, Nat.zero_add] at ho
      rw [if_pos (by omega), Nat.zero_add] at he
      cases hp : pos L i with
      | none => rw [hp] at ho he; exact .inr ⟨hi, rfl, ho, he⟩
      | some k =>
        rw [hp] at ho he
        simp only [Option.some.injEq] at ho he
        have hk : k < L.length := (List.getElem?_eq_some_iff.1 (pos_some hp)).1
        have h1 : σc[k]? = some (σc[k]'(by omega)) := List.getElem?_eq_getElem _
        have h2 : Cc.θ[k]? = some (Cc.θ[k]'(by omega)) := List.getElem?_eq_getElem _
        rw [obj_eq h1] at ho
        rw [ent_eq h2] at he
        exact .inl ⟨k, _, h1, by rw [h2, he], ho.symm, by simp [un, pos_some hp]⟩
    · rw [if_neg hi, List.getElem?_drop] at ho
      rw [if_neg (by omega), List.getElem?_drop] at he
      cases hq : σc[L.length + (i - σ.length)]? with
      | none => rw [hq] at ho; cases ho
      | some p =>
        rw [hq] at ho
        cases ho
        refine .inl ⟨_, p, hq, by rw [← he]; congr 1; omega, rfl, ?_⟩
        have : L[L.length + (i - σ.length)]? = none := List.getElem?_eq_none (by omega)
        simp only [un, this]
        omega
  have hlv : ∀ b, Lives (C.back L Cc) (back L σ.length σc 0 σ) b → Lives Cc σc b ∨ (∃ (i : Nat) (o : AObj) (e : Ent), i < σ.length ∧ pos L i = none ∧ σ[i]? = some o ∧ o.live = true ∧ C.θ[i]? = some e ∧ e.b = some b) := fun b hb => by
    obtain ⟨i, o, e, h1, h2, h3, h4⟩ := hb
    rcases hcase i o e h1 h3 with ⟨k, p, q1, q2, rfl, _⟩ | ⟨q0, q1, q2, q3⟩
    · rw [AObj.live_ren] at h2; exact .inl ⟨k, p, e, q1, h2, q2, h4⟩
    · exact .inr ⟨i, o, e, q0, q1, q2, h2, q3, h4⟩
  have hsubl : ∀ b, Lives (C.sub L) (E.sub σ L L) b → Lives C σ b := fun b hb => by
    obtain ⟨i, _, o, e, h1, h2, h3, h4⟩ := sub_lives hI hcl hb
    exact ⟨i, o, e, h1, h2, h3, h4⟩
  have hun : ∀ i o e b, i < σ.length → pos L i = none → σ[i]? = some o → o.live = true → C.θ[i]? = some e → e.b = some b → Cc.rg b = none ∧ ¬ Lives Cc σc b ∧ b < w'.heap.size := fun i o e b hi hp ho hl he hb => by
    obtain ⟨f1, f2, f3⟩ := hfr i hi hp o e b ho hl he hb
    refine ⟨?_, fun hl' => ?_, Nat.lt_of_lt_of_le f1 hE.size⟩
    · cases hr : Cc.rg b with
      | none => rfl
      | some r =>
        rcases hE.newrg b r hr with h | h | h
        · rw [show (C.sub L).rg = C.rg from rfl, f3] at h; cases h
        · exact absurd h f2
        · omega
    · rcases hE.lives b hl' with h | h
      · exact f2 h
      · omega
  refine ⟨hθ, hle, ⟨by simp only [Cz.back]; rw [backE_len, back_len]; omega, fun i o e ho he => ?_, fun i o e b ho hl he hb => ?_, fun i j o p e f b ho hp hlo hlp he hf hb hb' => ?_, hI'.rgs, hI'.glb⟩,
    ⟨hE.os, hE.tape, hE.output, hE.size, hle, fun b hb hnl => hE.frame b hb (fun h => hnl (hsubl b h)), fun b hb => ?_, fun b r hb => ?_⟩⟩
  · rcases hcase i o e ho he with ⟨k, p, q1, q2, rfl, _⟩ | ⟨q0, q1, q2, q3⟩
    · exact (hI'.ok k p e q1 q2).ren rfl (fun j _ e he => hθ j e he)
    · refine (hI.ok i o e q2 q3).keep hle (fun hl b hb => ?_)
      obtain ⟨f1, f2, f3⟩ := hfr i q0 q1 o e b q2 hl q3 hb
      exact hE.frame b f1 f2 fun r hr => by rw [show (C.sub L).rg = C.rg from rfl, f3] at hr; cases hr
  · rcases hcase i o e ho he with ⟨k, p, q1, q2, rfl, _⟩ | ⟨q0, q1, q2, q3⟩
    · rw [AObj.live_ren] at hl
      exact hI'.unrg k p e b q1 hl q2 hb
    · have := hun i o e b q0 q1 q2 hl q3 hb
      exact ⟨this.1, this.2.2⟩
  · rcases hcase i o e ho he with ⟨k, q, q1, q2, rfl, q3⟩ | ⟨q0, q1, q2, q3⟩ <;> rcases hcase j p f hp hf with ⟨k', q', r1, r2, rfl, r3⟩ | ⟨r0, r1, r2, r3⟩
    · rw [AObj.live_ren] at hlo hlp
      have := hI'.apart k k' q q' e f b q1 r1 hlo hlp q2 r2 hb hb'
      subst this
      rw [q3, r3]
    · rw [AObj.live_ren] at hlo
      exact absurd ⟨k, q, e, q1, hlo, q2, hb⟩ (hun j p f b r0 r1 r2 hlp r3 hb').2.1
    · rw [AObj.live_ren] at hlp
      exact absurd ⟨k', q', f, r1, hlp, r2, hb'⟩ (hun i o e b q0 q1 q2 hlo q3 hb).2.1
    · exact hI.apart i j o p e f b q2 r2 hlo hlp q3 r3 hb hb'
  · rcases hlv b hb with h | ⟨i, o, e, _, _, h1, h2, h3, h4⟩
    · rcases hE.lives b h with h | h
      · exact .inl (hsubl b h)
      · exact .inr h
    · exact .inl ⟨i, o, e, h1, h2, h3, h4⟩
  · rcases hE.newrg b r hb with h | h | h
    · exact .inl h
    · exact .inr (.inl (hsubl b h))
    · exact .inr (.inr h)

/-- A call, by a contract on the objects that it is handed. -/
theorem call_frame {P : Program} {f : FuncId} {args : List Val} {vs : Array Value} (hI : Inv w C σ) (hnd : nodupB L = true) (hcl : closedB σ L L = true) (hargs : RepVs w C vs.toList args) (hsub : subB L (Val.idsL args) = true)
    {K : Out → List AObj → Prop}
    (h : ACall P f (Val.renL (idx L) args) (sub σ L L) fun o σc => match o with
      | .ret v => K (.ret (v.ren (un L σ.length))) (back L σ.length σc 0 σ)
      | .pan a => K (.pan (a.ren (un L σ.length))) (back L σ.length σc 0 σ)) :
    Calls P f vs w fun e w' => ∃ o σ' C', K o σ' ∧ Inv w' C' σ' ∧ Ext w C σ w' C' σ' ∧ OutOk w' C' e o := by
  have hmem := subB_mem hsub
  have hargs' : RepVs w (C.sub L) vs.toList (Val.renL (idx L) args) := by
    rw [vrenL_map]
    refine ⟨by simpa using hargs.1, fun i v x h1 h2 => ?_⟩
    rw [List.getElem?_map] at h2
    cases hy : args[i]? with
    | none => rw [hy] at h2; cases h2
    | some y =>
      rw [hy] at h2; cases h2
      exact (hargs.2 i v y h1 hy).ren rfl (fun j hj e he => sub_ids hI hcl (hmem j (vidsL_mem (List.mem_of_getElem? hy) j hj)) he)
  refine (h.out w (C.sub L) vs (sub_inv hI hnd hcl) hargs').mono ?_
  rintro e w' ⟨o, σc, Cc, hK, hI', hE, hO⟩
  obtain ⟨b1, b2, b3, b4⟩ := back_all hI hnd hcl hI' hE
  cases o with
  | ret x =>
    obtain ⟨v, rfl, hr⟩ := hO
    exact ⟨_, _, _, hK, b3, b4, v, rfl, hr.ren rfl (fun j _ e he => b1 j e he)⟩
  | pan a =>
    obtain ⟨v, rfl, hr⟩ := hO
    exact ⟨_, _, _, hK, b3, b4, v, rfl, hr.ren rfl (fun j _ e he => b1 j e he)⟩

/-- A call that is handed no object; it may leave new ones. -/
theorem call_pure {P : Program} {f : FuncId} {args : List Val} {vs : Array Value} (hI : Inv w C σ) (hargs : RepVs w C vs.toList args) (hsub : Val.idsL args = []) {K : Out → List AObj → Prop}
    (h : ACall P f args [] fun o σc => match σc with
      | [] => K o σ
      | s :: r => match o with
        | .ret v => K (.ret (v.ren (un [] σ.length))) (back [] σ.length (s :: r) 0 σ)
        | .pan a => K (.pan (a.ren (un [] σ.length))) (back [] σ.length (s :: r) 0 σ)) :
    Calls P f vs w fun e w' => ∃ o σ' C', K o σ' ∧ Inv w' C' σ' ∧ Ext w C σ w' C' σ' ∧ OutOk w' C' e o := by
  have hargs' : RepVs w (C.sub []) vs.toList args := ⟨hargs.1, fun i v x h1 h2 => by
    have hno : ∀ j ∈ x.ids, False := fun j hj => by
      have := vidsL_mem (List.mem_of_getElem? h2) j hj
      rw [hsub] at this; simp at this
    -- nothing is mentioned: other numbers change nothing
    have key : ∀ (v : Value) (x : Val), RepV w C v x → (∀ j ∈ x.ids, False) → RepV w (C.sub []) v x := by
      intro v x hx
      have keyA : ∀ (v : Value) (a : AV), RepA w C v a → (∀ j ∈ a.ids, False) → RepA w (C.sub []) v a := by
        intro v a ha
        induction ha with
        | d v x h => intro _; exact .d v x h
        | ptr o off b e he hr hb => intro H; exact (H o (by simp [AV.ids])).elim
        | own o n e he hr hn A c hv => intro H; exact (H o (by simp [AV.ids])).elim
        | rowp o n j sz off e he hr hn b hv => intro H; exact (H o (by simp [AV.ids])).elim
        | emp A => intro _; exact .emp A
        | full A n r sz rows hn h => intro _; exact .full A n r sz rows hn h
        | mp o b e he hr hb => intro H; exact (H o (by simp [AV.ids])).elim
        | fn g fs cs first cap vf vc h1 h2 g1 g2 r1 r2 i1 i2 =>
          intro H
          exact .fn g fs cs first cap vf vc h1 h2 g1 g2 (fun i x hx => i1 i x hx (fun j hj => H j (by simp only [AV.ids, List.mem_append]; exact .inl (idsL_mem (List.mem_of_getElem? hx) j hj))))
            (fun i x hx => i2 i x hx (fun j hj => H j (by simp only [AV.ids, List.mem_append]; exact .inr (idsL_mem (List.mem_of_getElem? hx) j hj))))
        | ifc t v x h ih => intro H; exact .ifc t v x (ih (fun j hj => H j (by simpa [AV.ids] using hj)))
        | ifa t arr cells vs hs hcell hrep ih =>
          intro H
          exact .ifa t arr cells vs hs hcell (fun i x hx => ih i x hx (fun j hj => H j (by simp only [AV.ids]; exact idsL_mem (List.mem_of_getElem? hx) j hj)))
      induction hx with
      | c v a h => intro H; exact .c v a (keyA v a h (by simpa [Val.ids] using H))
      | agg arr cells h => intro H; exact .agg arr cells ⟨h.1, fun i v a h1 h2 => keyA v a (h.2 i v a h1 h2) (fun j hj => H j (by simp only [Val.ids]; exact idsL_mem (List.mem_of_getElem? h2) j hj))⟩
      | tup arr vs hs h ih => intro H; exact .tup arr vs hs (fun i v x h1 h2 => ih i v x h1 h2 (fun j hj => H j (by simp only [Val.ids]; exact vidsL_mem (List.mem_of_getElem? h2) j hj)))
      | junk v => intro _; exact .junk v
    exact key v x (hargs.2 i v x h1 h2) hno⟩
  refine (h.out w (C.sub []) vs (sub_inv (L := []) hI rfl rfl) hargs').mono ?_
  rintro e w' ⟨o, σc, Cc, hK, hI', hE, hO⟩
  cases σc with
  | cons s r =>
    obtain ⟨b1, b2, b3, b4⟩ := back_all (L := []) hI rfl rfl hI' hE
    cases o with
    | ret x =>
      obtain ⟨v, rfl, hr⟩ := hO
      exact ⟨_, _, _, hK, b3, b4, v, rfl, hr.ren rfl (fun j _ e he => b1 j e he)⟩
    | pan a =>
      obtain ⟨v, rfl, hr⟩ := hO
      exact ⟨_, _, _, hK, b3, b4, v, rfl, hr.ren rfl (fun j _ e he => b1 j e he)⟩
  | nil =>
    obtain ⟨b1, b2, b3, b4⟩ := back_all (L := []) hI rfl rfl hI' hE
    have hθ0 : Cc.θ = [] := List.eq_nil_of_length_eq_zero hI'.len
    have hle : CzLe w' Cc w' (C.back [] Cc) := ⟨fun b r hb => ⟨hb, .inl rfl⟩, fun i e he => by rw [hθ0] at he; simp at he⟩
    have hback : back [] σ.length [] 0 σ = σ := by
      have : ∀ (i : Nat) (τ : List AObj), back [] σ.length [] i τ = τ := by
        intro i τ
        induction τ generalizing i with
        | nil => rfl
        | cons o τ ih => simp [back, pos, ih]
      exact this 0 σ
    rw [hback] at b3 b4
    cases o with
    | ret x =>
      obtain ⟨v, rfl, hr⟩ := hO
      exact ⟨_, _, _, hK, b3, b4, v, rfl, hr.mono hle⟩
    | pan a =>
      obtain ⟨v, rfl, hr⟩ := hO
      exact ⟨_, _, _, hK, b3, b4, v, rfl, hr.mono hle⟩

end
end Go.Proofs.YtmaokphbfjpodaaGreatDoor.E

/- The engine, between parts 13 and 14: slices made with no elements, tests of arrays of numbers. No conditions. -/
set_option linter.unusedVariables false
set_option linter.unusedSimpArgs false
namespace Go.Proofs.YtmaokphbfjpodaaGreatDoor.E
open Go

/-! ### make -/
def nz (ρ : Nat) : List DV → List (Option Nat) → List DV
  | [], _ => []
  | x :: l, [] => x :: l
  | x :: l, n :: r => (match x, n with | .nils, some sz => .sl ρ sz [] | x, _ => x) :: nz ρ l r
def aMake (T : Tab) (ρ : Nat) (σ : List AObj) (t : Nat) (x y : Val) (K : Val → List AObj → Prop) : Prop :=
  match T.ti t with
  | some i => match i.k with
    | .sl e => match T.ti e with
      | some j => match x, y with
        | .c (.d (.int _ l)), .c (.d (.int _ c)) => bif natEq j.sz 0 then False else (0 ≤ l ∧ l ≤ c ∧ (j.bytes : Int) * c ≤ 281474976710656 ∧ c ≤ 4611686018427387904) ∧ K (.c (.own σ.length l.toNat)) (σ ++ [.row e j.sz (List.replicate l.toNat (nz ρ j.zero j.nrm))])
        | _, _ => False
      | none => False
    | _ => False
  | none => False

/-! ### == of arrays -/
def intsOf : List AV → Option (List (IntKind × Int))
  | [] => some []
  | .d (.int k n) :: l => match intsOf l with | some r => some ((k, n) :: r) | none => none
  | _ :: _ => none
def kindsAre (k : IntKind) : List (IntKind × Int) → Bool
  | [] => true
  | (k', _) :: l => ikEq k' k && kindsAre k l
def intsEq : List (IntKind × Int) → List (IntKind × Int) → Bool
  | (_, a) :: l, (_, b) :: m => (a == b) && intsEq l m
  | _, _ => true
def dOf : AV → Option DV
  | .d x => some x
  | _ => none
def cmp1 (k : TK) (x y : DV) : Option Bool := match k, x, y with
  | .int k, .int k1 a, .int k2 b => bif ikEq k1 k && ikEq k2 k then some (a == b) else none
  | .str, .str a, .str b => some (decide (a = b))
  | .bool, .bool a, .bool b => some (a == b)
  | _, _, _ => none
/-- Structs of plain fields, field by field. -/
def cmpF (T : Tab) : List (Nat × Nat) → Nat → List AV → List AV → Option Bool
  | [], _, [], [] => some true
  | (off, ty) :: fl, n, a :: xs, b :: ys => bif natEq off n then (match T.ti ty, dOf a, dOf b with
      | some j, some x, some y => (match cmp1 j.k x y, cmpF T fl (n + 1) xs ys with | some p, some r => some (p && r) | _, _ => none)
      | _, _, _ => none) else none
  | _, _, _, _ => none
def aEqA (T : Tab) (op : BinOp) (t : Nat) (xs ys : List AV) (K : Val → Prop) : Prop :=
  match T.ti t with
  | some i => match i.k with
    | .arr n e => match T.ti e with
      | some j => match j.k with
        | .int k => match intsOf xs, intsOf ys with
          | some as, some bs => bif T.eqa t && natEq j.sz 1 && natEq as.length n && natEq bs.length n && kindsAre k as && kindsAre k bs then (match op with
            | .eql => K (.c (.d (.bool (intsEq as bs))))
            | .neq => K (.c (.d (.bool (!(intsEq as bs)))))
            | _ => False) else False
          | _, _ => False
        | _ => False
      | none => False
    | .strct => (match cmpF T i.flds 0 xs ys with
      | some r => bif T.eqa t then (match op with
        | .eql => K (.c (.d (.bool r)))
        | .neq => K (.c (.d (.bool (!r))))
        | _ => False) else False
      | none => False)
    | _ => False
  | none => False
def aBinA (T : Tab) (op : BinOp) (t : Nat) (x y : Val) (cst : Bool) (K : Val → Prop) : Prop :=
  match x, y with
  | .agg xs, .agg ys => aEqA T op t xs ys K
  | x, y => aBin T op t x y cst K

section
variable {P : Program} {T : Tab} (HT : TabOk P T)

theorem nz_len (ρ : Nat) : ∀ (l : List DV) (r : List (Option Nat)), (nz ρ l r).length = l.length
  | [], _ => rfl
  | x :: l, [] => rfl
  | x :: l, n :: r => by simp [nz, nz_len ρ l r]
theorem nz_get (ρ : Nat) {w : World} {rg : Nat → Option Nat} : ∀ (l : List DV) (r : List (Option Nat)) (i : Nat) y, (nz ρ l r)[i]? = some y → ∃ x, l[i]? = some x ∧ ∀ v, RepD w rg v x → RepD w rg v y
  | [], _, i, y, h => by simp [nz] at h
  | x :: l, [], i, y, h => ⟨y, by simpa [nz] using h, fun v hv => hv⟩
  | x :: l, n :: r, 0, y, h => by
    simp only [nz, List.getElem?_cons_zero, Option.some.injEq] at h
    refine ⟨x, rfl, fun v hv => ?_⟩
    split at h
    · subst h; exact repD_nils hv _ _
    · subst h; exact hv
  | x :: l, n :: r, i + 1, y, h => by
    simp only [nz, List.getElem?_cons_succ] at h ⊢
    exact nz_get ρ l r i y h
theorem allZ_get {w : World} {rg : Nat → Option Nat} : ∀ {xs : List DV} {vs : List Value}, allZ xs vs = true → xs.length = vs.length ∧ ∀ (i : Nat) x, xs[i]? = some x → ∃ v, vs[i]? = some v ∧ RepD w rg v x
  | [], [], _ => ⟨rfl, fun i x h => by simp at h⟩
  | x :: xs, v :: vs, h => by
    simp only [allZ, Bool.and_eq_true] at h
    obtain ⟨i1, i2⟩ := allZ_get (w := w) (rg := rg) h.2
    refine ⟨by simp [i1], fun i y hy => ?_⟩
    cases i with
    | zero => simp at hy; subst hy; exact ⟨v, rfl, isZ_rep h.1⟩
    | succ i => simp at hy; obtain ⟨u, h1, h2⟩ := i2 i y hy; exact ⟨u, by simpa using h1, h2⟩
  | [], _ :: _, h => by cases h
  | _ :: _, [], h => by cases h

include HT in
theorem ok_make (ρ : Nat) {w : World} {C : Cz} {σ : List AObj} (hI : Inv w C σ) {t : Nat} {u v : Value} {x y : Val} (hx : RepV w C u x) (hy : RepV w C v y) {K : Val → List AObj → Prop}
    (hk : aMake T ρ σ t x y K) : OK1 P (Instr.makeSlice t u v) w C σ K := by
  unfold aMake at hk
  split at hk
  · rename_i i hi
    obtain ⟨info, d, z, h1, h2, h3, h4, h6, h7, h8, h9, h10, h11, h12⟩ := ti_parts (HT.ti t i hi)
    split at hk
    · rename_i e hik
      rw [hik] at h3
      have := kind_sl h3
      subst this
      split at hk
      · rename_i j hj
        obtain ⟨ie, _, ze, k1, k2, k3, k4, k6, k7, k8, k9, k10, k11, k12⟩ := ti_parts (HT.ti e j hj)
        split at hk
        · rename_i ka l kb c
          cases hg : natEq j.sz 0 with
          | true => rw [hg] at hk; exact hk.elim
          | false =>
          rw [hg] at hk
          simp only [cond_false] at hk
          obtain ⟨⟨q0, q1, q2, q3⟩, hk⟩ := hk
          have e1 := int_of hx
          have e2 := int_of hy
          subst e1; subst e2
          have hpos : 0 < j.sz := by
            rcases Nat.eq_zero_or_pos j.sz with h0 | h0
            · rw [h0] at hg; cases hg
            · exact h0
          obtain ⟨n, rfl⟩ : ∃ n : Nat, c = n := ⟨c.toNat, by omega⟩
          obtain ⟨m, rfl⟩ : ∃ m : Nat, l = m := ⟨l.toNat, by omega⟩
          have hml : ∀ n : Nat, n ≤ 4611686018427387904 → n ≤ maxLen := fun n hn => by simp only [maxLen]; omega
          have r1 := run_make (P := P) w t e ie ze h2 k1 k8 ka kb m n q0 q1 (by rw [k6]; exact q2) (by omega)
          simp only [Int.toNat_natCast] at r1 hk
          let W := w.alloc (.cells (madeCells ze.cells (n * ie.size)) e)
          let en : Ent := ⟨true, some w.heap.size, m, .slice (some ⟨w.heap.size, 0, none⟩) m n⟩
          have hold : ∀ b, b < w.heap.size → W.heap[b]? = w.heap[b]? := fun b hb => alloc_old w _ hb
          have hsz : w.heap.size < W.heap.size := by simp [W]
          have hnew : ∀ b, en.b = some b → w.heap.size ≤ b ∧ b < W.heap.size := fun b hb => by
            cases hb
            exact ⟨Nat.le_refl _, hsz⟩
          have hmn : m ≤ n := by omega
          have hsm : m * j.sz ≤ n * j.sz := Nat.mul_le_mul_right _ hmn
          obtain ⟨az1, az2⟩ := allZ_get (w := W) (rg := (C.add en).rg) k9
          have hzl : j.zero.length = j.sz := by rw [az1]; simpa using k10
          have hO : ObjOk W (C.add en) en (.row e j.sz (List.replicate m (nz ρ j.zero j.nrm))) := by
            refine ⟨rfl, by simp [en], rfl, hpos, fun row h => ?_, (madeCells ze.cells (n * ie.size)).toList.take (m * j.sz), ⟨?_, .inr ⟨w.heap.size, n, _, ?_, Nat.zero_le _, alloc_new w _, ?_, hml n (by omega), ?_, ?_⟩⟩, fun a b row y ha hb => ?_⟩
            · rw [(List.mem_replicate.1 h).2, nz_len, hzl]
            · rw [List.length_replicate, List.length_take, Array.length_toList, size_madeCells, k4]; omega
            · rw [List.length_replicate]
            · rw [List.length_replicate]; exact hmn
            · rw [size_madeCells, k4]
            · rw [List.length_replicate]
            · have ham : a < m := by
                have := (List.getElem?_eq_some_iff.1 ha).1
                simpa using this
              have hrow : row = nz ρ j.zero j.nrm := by
                have := List.getElem?_eq_some_iff.1 ha
                obtain ⟨_, h⟩ := this
                rw [List.getElem_replicate] at h; exact h.symm
              subst hrow
              obtain ⟨x0, hx0, hr⟩ := nz_get (w := W) (rg := (C.add en).rg) ρ _ _ b y hb
              obtain ⟨v0, hv0, hv1⟩ := az2 b x0 hx0
              have hbs : b < j.sz := by rw [← hzl]; exact (List.getElem?_eq_some_iff.1 hx0).1
              have hlt : a * j.sz + b < m * j.sz := by
                have h0 : a * j.sz + j.sz ≤ m * j.sz := by rw [← Nat.succ_mul]; exact Nat.mul_le_mul_right _ ham
                omega
              refine ⟨v0, ?_, hr _ hv1⟩
              have hzs : ze.cells.size = j.sz := k10
              have hmod : (a * j.sz + b) % ze.cells.size = b := by
                rw [hzs, Nat.add_comm, Nat.add_mul_mod_self_right]
                exact Nat.mod_eq_of_lt hbs
              have hb2 : b < ze.cells.size := by omega
              have hv : ze.cells[b]! = v0 := by
                rw [Array.getElem?_toList] at hv0
                obtain ⟨_, hv0⟩ := Array.getElem?_eq_some_iff.1 hv0
                rw [getElem!_pos ze.cells b hb2]; exact hv0
              rw [List.getElem?_take, if_pos hlt, Array.getElem?_toList, k4]
              simp only [madeCells, Array.getElem?_map]
              rw [Array.getElem?_eq_getElem (by simp; omega)]
              simp only [Array.getElem_range, Option.map_some]
              rw [hmod, hv]
          refine ⟨_, _, C.add en, _, _, r1, hk, hI.addNew (Nat.le_of_lt hsz) hold hnew hO,
            Ext.addNew hI rfl rfl rfl (Nat.le_of_lt hsz) hold (fun b hb => (hnew b hb).1), .c _ _ (.own σ.length m en (by simp [Cz.add, ← hI.len]) rfl (Nat.le_refl _) _ _ (fun _ => rfl))⟩
        · exact hk.elim
      · exact hk.elim
    · exact hk.elim
  · exact hk.elim

theorem intsOf_get : ∀ {l : List AV} {r : List (IntKind × Int)}, intsOf l = some r → r.length = l.length ∧ ∀ (i : Nat) k n, r[i]? = some (k, n) → l[i]? = some (.d (.int k n))
  | [], r, h => by simp [intsOf] at h; subst h; exact ⟨rfl, fun i k n h => by simp at h⟩
  | a :: l, r, h => by
    cases a with
    | d x =>
      cases x with
      | int k n =>
        simp only [intsOf] at h
        split at h
        · rename_i r' hr
          obtain ⟨e1, e2⟩ := intsOf_get hr
          cases h
          refine ⟨by simp [e1], fun i k' n' h => ?_⟩
          cases i with
          | zero => simp at h; obtain ⟨rfl, rfl⟩ := h; rfl
          | succ i => simp at h ⊢; exact e2 i k' n' h
        · cases h
      | _ => simp [intsOf] at h
    | _ => simp [intsOf] at h
theorem kindsAre_get {k : IntKind} : ∀ {l : List (IntKind × Int)}, kindsAre k l = true → ∀ p ∈ l, p.1 = k
  | [], _, p, hp => by simp at hp
  | (k', n) :: l, h, p, hp => by
    simp only [kindsAre, Bool.and_eq_true] at h
    rcases List.mem_cons.1 hp with rfl | hp
    · exact ikEq_eq h.1
    · exact kindsAre_get h.2 p hp
theorem run_items {e : TypeId} {k : IntKind} (he : P.plainKey e = true) (hu : P.underlying e = some (.int k)) (d : Nat) (w : World) (xs ys : Array Value) : ∀ (as bs : List (IntKind × Int)) (s : Nat), as.length = bs.length →
    (∀ p ∈ as, p.1 = k) → (∀ p ∈ bs, p.1 = k) → (∀ (i : Nat) k n, as[i]? = some (k, n) → xs[s + i]? = some (.int k n)) → (∀ (i : Nat) k n, bs[i]? = some (k, n) → ys[s + i]? = some (.int k n)) →
    (Op.eqItems (d + 1) e 1 xs ys (List.range' s as.length)).run P w = .ok (intsEq as bs) w
  | [], [], s, _, _, _, _, _ => by simp [Op.eqItems, intsEq]
  | (k1, a) :: as, (k2, b) :: bs, s, hl, h1, h2, hx, hy => by
    have q1 := h1 (k1, a) (by simp)
    have q2 := h2 (k2, b) (by simp)
    simp only at q1 q2
    subst q1; subst q2
    have p1 := run_part_plain (P := P) (w := w) he (hx 0 k2 a rfl)
    have p2 := run_part_plain (P := P) (w := w) he (hy 0 k2 b rfl)
    have p3 := run_equalIn_int (P := P) w d e k2 k2 a b hu
    have ih := run_items he hu d w xs ys as bs (s + 1) (by simpa using hl) (fun p hp => h1 p (by simp [hp])) (fun p hp => h2 p (by simp [hp]))
      (fun i k n h => by have := hx (i + 1) k n (by simpa using h); rwa [show s + (i + 1) = s + 1 + i by omega] at this)
      (fun i k n h => by have := hy (i + 1) k n (by simpa using h); rwa [show s + (i + 1) = s + 1 + i by omega] at this)
    simp only [List.length_cons, List.range'_succ, Op.eqItems, Sem.run_bind, Nat.mul_one, Nat.add_zero] at p1 p2 ⊢
    rw [p1]; simp only [Result.andThen_ok]
    rw [p2]; simp only [Result.andThen_ok]
    rw [p3]; simp only [Result.andThen_ok, intsEq]
    cases hab : (a == b) with
    | false => simp
    | true => simp only [Bool.not_true, Bool.false_eq_true, if_false, Bool.true_and]; exact ih

theorem dOf_some {a : AV} {x : DV} (h : dOf a = some x) : a = .d x := by
  cases a <;> simp [dOf] at h
  rw [h]
theorem cmp1_run {k : TK} {x y : DV} {p : Bool} {ty : TypeId} {d0 : TypeDesc} (h : cmp1 k x y = some p) (hk : kindOk k d0 = true) (hu : P.underlying ty = some d0) (d : Nat) {w : World} {rg : Nat → Option Nat} {u v : Value} (hx : RepD w rg u x) (hy : RepD w rg v y) :
    (Op.equalIn (d + 1) ty u v).run P w = .ok p w := by
  unfold cmp1 at h
  split at h
  · rename_i k k1 a k2 b
    cases hg : ikEq k1 k && ikEq k2 k with
    | false => rw [hg] at h; cases h
    | true =>
      rw [hg] at h
      cases h
      simp only [Bool.and_eq_true] at hg
      obtain rfl := ikEq_eq hg.1
      obtain rfl := ikEq_eq hg.2
      cases hx; cases hy
      obtain rfl : d0 = .int k2 := by
        cases d0 <;> first | (cases hk; done) | skip
        simp only [kindOk, beq_iff_eq] at hk
        subst hk; rfl
      exact run_equalIn_int w d ty _ _ _ _ hu
  · rename_i a b
    cases h
    cases hx; cases hy
    obtain rfl : d0 = .string := by cases d0 <;> first | (cases hk; done) | rfl
    rw [run_equalIn_string w d ty _ _ hu, toList_eq]
  · rename_i a b
    cases h
    cases hx; cases hy
    obtain rfl : d0 = .bool := by cases d0 <;> first | (cases hk; done) | rfl
    exact run_equalIn_bool w d ty _ _ hu
  · cases h
include HT in
theorem run_cmpF {w : World} {C : Cz} (d : Nat) (arr brr : Array Value) : ∀ (fl : List (Nat × Nat)) (fs : List Field) (n : Nat) (xs ys : List AV) (r : Bool), cmpF T fl n xs ys = some r → fl.length = fs.length →
    (∀ (j off ty : Nat), fl[j]? = some (off, ty) → ∃ fd : Field, fs[j]? = some fd ∧ fd.offset = off ∧ fd.type = ty ∧ fd.name ≠ "_" ∧ P.plainKey fd.type = true) →
    (∀ (i : Nat) a, xs[i]? = some a → ∃ v, arr[n + i]? = some v ∧ RepA w C v a) → (∀ (i : Nat) a, ys[i]? = some a → ∃ v, brr[n + i]? = some v ∧ RepA w C v a) →
    (Op.eqFields (d + 1) arr brr fs).run P w = .ok r w
  | [], fs, n, xs, ys, r, h, hl, _, _, _ => by
    obtain rfl : fs = [] := List.length_eq_zero_iff.1 (by simpa using hl.symm)
    cases xs <;> cases ys <;> simp [cmpF] at h
    subst h
    simp [Op.eqFields]
  | (off, ty) :: fl, fs, n, xs, ys, r, h, hl, hf, hx, hy => by
    cases xs with
    | nil => simp [cmpF] at h
    | cons a xs =>
    cases ys with
    | nil => simp [cmpF] at h
    | cons b ys =>
    simp only [cmpF] at h
    cases ho : natEq off n with
    | false => rw [ho] at h; cases h
    | true =>
    rw [ho] at h
    simp only [cond_true] at h
    have ho := natEq_eq ho
    subst ho
    split at h
    · rename_i j x y hj ha hb
      split at h
      · rename_i p r' h1 h2
        cases h
        obtain ⟨fd, e1, e2, e3, e4, e5⟩ := hf 0 off ty rfl
        cases fs with
        | nil => simp at e1
        | cons fd' fs =>
        simp at e1
        subst e1
        obtain ⟨u, hu1, hu2⟩ := hx 0 a rfl
        obtain ⟨v, hv1, hv2⟩ := hy 0 b rfl
        rw [dOf_some ha] at hu2
        rw [dOf_some hb] at hv2
        obtain ⟨ie, d2, ze, k1, k2, k3, _⟩ := ti_parts (HT.ti ty j hj)
        have q1 := run_part_plain (P := P) (w := w) e5 (xs := arr) (off := fd'.offset) (v := u) (by rw [e2]; simpa using hu1)
        have q2 := run_part_plain (P := P) (w := w) e5 (xs := brr) (off := fd'.offset) (v := v) (by rw [e2]; simpa using hv1)
        have q3 := cmp1_run (P := P) h1 k3 k2 d (repA_d hu2) (repA_d hv2)
        have ih := run_cmpF (w := w) (C := C) d arr brr fl fs (off + 1) xs ys r' h2 (by simpa using hl) (fun j o t h => hf (j + 1) o t (by simpa using h))
          (fun i a h => by have := hx (i + 1) a (by simpa using h); rwa [show off + (i + 1) = off + 1 + i by omega] at this)
          (fun i a h => by have := hy (i + 1) a (by simpa using h); rwa [show off + (i + 1) = off + 1 + i by omega] at this)
        rw [← e3] at q3
        simp only [Op.eqFields, e4, ne_eq, not_false_eq_true, if_true, Sem.run_bind]
        rw [q1]; simp only [Result.andThen_ok]
        rw [q2]; simp only [Result.andThen_ok]
        rw [q3]; simp only [Result.andThen_ok]
        cases p with
        | false => simp
        | true => simp only [Bool.not_true, Bool.false_eq_true, if_false, Bool.true_and]; exact ih
      · cases h
    · cases h

include HT in
theorem ok_eqA {w : World} {C : Cz} {σ : List AObj} (hI : Inv w C σ) {op : BinOp} {t : Nat} {X Y : Operand} {u v : Value} {xs ys : List AV} (hx : RepV w C u (.agg xs)) (hy : RepV w C v (.agg ys)) {K : Val → List AObj → Prop}
    (hk : aEqA T op t xs ys (fun z => K z σ)) : OK1 P (do eqGuard op t X Y u v; binOp op t u v) w C σ K := by
  unfold aEqA at hk
  split at hk
  · rename_i i hi
    obtain ⟨info, d, z, h1, h2, h3, h4, h6, h7, h8, h9, h10, h11, h12⟩ := ti_parts (HT.ti t i hi)
    split at hk
    · rename_i n e hik
      rw [hik] at h3
      obtain rfl : d = .array n e := by
        cases d <;> first | (cases h3; done) | skip
        simp only [kindOk, Bool.and_eq_true, beq_iff_eq] at h3
        obtain ⟨rfl, rfl⟩ := h3; rfl
      split at hk
      · rename_i j hj
        obtain ⟨ie, d2, ze, k1, k2, k3, k4, k6, k7, k8, k9, k10, k11, k12⟩ := ti_parts (HT.ti e j hj)
        split at hk
        · rename_i k hjk
          rw [hjk] at k3
          obtain rfl : d2 = .int k := by
            cases d2 <;> first | (cases k3; done) | skip
            simp only [kindOk, beq_iff_eq] at k3
            subst k3; rfl
          split at hk
          · rename_i as bs ha hb
            cases hg : T.eqa t && natEq j.sz 1 && natEq as.length n && natEq bs.length n && kindsAre k as && kindsAre k bs with
            | false => rw [hg] at hk; exact hk.elim
            | true =>
            rw [hg] at hk
            simp only [Bool.and_eq_true] at hg
            obtain ⟨⟨⟨⟨⟨g1, g2⟩, g3⟩, g4⟩, g5⟩, g6⟩ := hg
            have g1 := HT.eqa t g1
            unfold eqaCheck at g1
            rw [h2] at g1
            simp only [Bool.and_eq_true, Bool.not_eq_true'] at g1
            obtain ⟨g1, g7⟩ := g1
            have g2 := natEq_eq g2
            have g3 := natEq_eq g3
            have g4 := natEq_eq g4
            obtain ⟨a1, a2⟩ := intsOf_get ha
            obtain ⟨b1, b2⟩ := intsOf_get hb
            obtain ⟨arr, rfl, ra⟩ : ∃ arr, u = .agg arr ∧ RepL w C arr.toList xs := by cases hx; exact ⟨_, rfl, by assumption⟩
            obtain ⟨brr, rfl, rb⟩ : ∃ arr, v = .agg arr ∧ RepL w C arr.toList ys := by cases hy; exact ⟨_, rfl, by assumption⟩
            have cell : ∀ {arr : Array Value} {xs : List AV} {as : List (IntKind × Int)}, RepL w C arr.toList xs → (∀ (i : Nat) k n, as[i]? = some (k, n) → xs[i]? = some (.d (.int k n))) → ∀ (i : Nat) k n, as[i]? = some (k, n) → arr[0 + i]? = some (.int k n) := fun {arr xs as} hr hq i k n h => by
              have h := hq i k n h
              have hlt := (List.getElem?_eq_some_iff.1 h).1
              have hl := hr.1
              have hlt2 : i < arr.toList.length := by omega
              have := hr.2 i _ _ (List.getElem?_eq_getElem hlt2) h
              have := repA_d this
              rw [Nat.zero_add, ← Array.getElem?_toList, List.getElem?_eq_getElem hlt2]
              cases hv : arr.toList[i] <;> rw [hv] at this <;> cases this
              rfl
            have hc : P.cellsOf e = 1 := by rw [← g2, ← k4]; simp [Program.cellsOf, k1]
            have hrun := run_equalIn_array (P := P) (w := w) 9999 arr brr h2 k1
            rw [hc, List.range_eq_range', ← g3, run_items (P := P) g7 k2 9998 w arr brr as bs 0 (by omega) (kindsAre_get g5) (kindsAre_get g6) (cell ra a2) (cell rb b2)] at hrun
            have hgd := run_eqGuard_agg (P := P) w op t X Y arr brr g1
            split at hk
            · refine OK1.same hI (v := .bool (intsEq as bs)) ?_ hk (.c _ _ (.d _ _ (.bool _)))
              rw [Sem.run_bind, hgd]
              show (binOp .eql t (.agg arr) (.agg brr)).run P w = _
              rw [run_eql_struct, hrun]; rfl
            · refine OK1.same hI (v := .bool (!(intsEq as bs))) ?_ hk (.c _ _ (.d _ _ (.bool _)))
              rw [Sem.run_bind, hgd]
              show (binOp .neq t (.agg arr) (.agg brr)).run P w = _
              rw [run_neq_struct, hrun]; rfl
            · exact hk.elim
          · exact hk.elim
        · exact hk.elim
      · exact hk.elim
    · rename_i hik
      rw [hik] at h3
      obtain ⟨fs, rfl⟩ := kind_strct h3
      obtain ⟨f1, f2⟩ := h7 fs hik rfl
      split at hk
      · rename_i r hr
        cases hg : T.eqa t with
        | false => rw [hg] at hk; exact hk.elim
        | true =>
        rw [hg] at hk
        have g1 := HT.eqa t hg
        unfold eqaCheck at g1
        rw [h2] at g1
        simp only [Bool.and_eq_true, Bool.not_eq_true', List.all_eq_true, bne_iff_ne, ne_eq] at g1
        obtain ⟨g1, g7, g8⟩ := g1
        obtain ⟨arr, rfl, ra⟩ : ∃ arr, u = .agg arr ∧ RepL w C arr.toList xs := by cases hx; exact ⟨_, rfl, by assumption⟩
        obtain ⟨brr, rfl, rb⟩ : ∃ arr, v = .agg arr ∧ RepL w C arr.toList ys := by cases hy; exact ⟨_, rfl, by assumption⟩
        have cell : ∀ {arr : Array Value} {xs : List AV}, RepL w C arr.toList xs → ∀ (i : Nat) a, xs[i]? = some a → ∃ v, arr[0 + i]? = some v ∧ RepA w C v a := fun {arr xs} hr i a h => by
          have hl := hr.1
          have hlt := (List.getElem?_eq_some_iff.1 h).1
          have hlt2 : i < arr.toList.length := by omega
          refine ⟨arr.toList[i], by rw [Nat.zero_add, ← Array.getElem?_toList, List.getElem?_eq_getElem hlt2], hr.2 i _ _ (List.getElem?_eq_getElem hlt2) h⟩
        have hfo : P.fieldsOf t = fs := by simp [Program.fieldsOf, h2]
        have hrun := run_equalIn_struct (P := P) w 9999 t arr brr (by rw [hfo]; exact h2) g7
        rw [hfo, run_cmpF HT (w := w) (C := C) 9998 arr brr i.flds fs.toList 0 xs ys r hr (by simpa using f2) (fun j off ty hj => by
          obtain ⟨fd, ie, e1, e2, e3, _, _⟩ := fldsOk_get i.flds 0 f1 j off ty hj
          rw [Nat.zero_add] at e1
          have hm : fd ∈ fs.toList := List.mem_of_getElem? (i := j) (by rw [Array.getElem?_toList]; exact e1)
          exact ⟨fd, by rw [Array.getElem?_toList]; exact e1, e2, e3, (g8 fd hm).1, (g8 fd hm).2⟩) (cell ra) (cell rb)] at hrun
        have hgd := run_eqGuard_agg (P := P) w op t X Y arr brr g1
        simp only [cond_true] at hk
        split at hk
        · refine OK1.same hI (v := .bool r) ?_ hk (.c _ _ (.d _ _ (.bool _)))
          rw [Sem.run_bind, hgd]
          show (binOp .eql t (.agg arr) (.agg brr)).run P w = _
          rw [run_eql_struct, hrun]; rfl
        · refine OK1.same hI (v := .bool (!r)) ?_ hk (.c _ _ (.d _ _ (.bool _)))
          rw [Sem.run_bind, hgd]
          show (binOp .neq t (.agg arr) (.agg brr)).run P w = _
          rw [run_neq_struct, hrun]; rfl
        · exact hk.elim
      · exact hk.elim
    · exact hk.elim
  · exact hk.elim

include HT in
theorem ok_binA {w : World} {C : Cz} {σ : List AObj} (hI : Inv w C σ) {op : BinOp} {t : Nat} {X Y : Operand} {u v : Value} {x y : Val} (hx : RepV w C u x) (hy : RepV w C v y) {K : Val → List AObj → Prop}
    (hk : aBinA T op t x y (isC X || isC Y) (fun z => K z σ)) : OK1 P (do eqGuard op t X Y u v; binOp op t u v) w C σ K := by
  unfold aBinA at hk
  split at hk
  · exact ok_eqA HT hI hx hy hk
  · exact ok_bin HT hI hx hy hk
end
end Go.Proofs.YtmaokphbfjpodaaGreatDoor.E

/- The engine, between parts A and 14: maps from numbers, strings, truths to data of one cell. No conditions. -/
set_option linter.unusedVariables false
set_option linter.unusedSimpArgs false
namespace Go.Proofs.YtmaokphbfjpodaaGreatDoor.E
open Go

def dvEq : DV → DV → Bool
  | .int k a, .int k' b => ikEq k k' && (a == b)
  | .str a, .str b => decide (a = b)
  | .bool a, .bool b => a == b
  | _, _ => false
/-- The first entry of a key. -/
def mget (key : DV) : List (Nat × DV × DV) → Nat → Option (Nat × DV)
  | [], _ => none
  | (_, k, v) :: l, i => if dvEq key k = true then some (i, v) else mget key l (i + 1)
def mcase (key : DV) : List (Nat × DV × DV) → Nat → (Nat → DV → Prop) → Prop → Prop
  | [], _, _, B => B
  | (_, k, v) :: l, i, A, B => cond (dvEq key k) (A i v) (mcase key l (i + 1) A B)
theorem mcase_eq (key : DV) (A : Nat → DV → Prop) (B : Prop) : ∀ (es : List (Nat × DV × DV)) (i : Nat), mcase key es i A B = (match mget key es i with | some (j, v) => A j v | none => B)
  | [], i => rfl
  | (_, k, v) :: l, i => by
    simp only [mcase, mget]
    cases dvEq key k with
    | true => simp
    | false => simp [mcase_eq key A B l (i + 1)]
def mset (j : Nat) (v : DV) : List (Nat × DV × DV) → List (Nat × DV × DV)
  | [] => []
  | (b, k, u) :: l => match j with
    | 0 => (b, k, v) :: l
    | j + 1 => (b, k, u) :: mset j v l
/-- What is behind a key; a key's value is written; a key goes: shut, so that a state stays as it is written (mlook_case .. open them). -/
def mlookD (q : DV) (es : List (Nat × DV × DV)) (z : DV) (X : DV → Prop) : Prop := match mget q es 0 with | some (_, v) => X v | none => X z
def mputD (q y : DV) (es : List (Nat × DV × DV)) (clock : Nat) (X : Nat → List (Nat × DV × DV) → Prop) : Prop := match mget q es 0 with | some (j, _) => X clock (mset j y es) | none => X (clock + 1) (es ++ [(clock, q, y)])
def mdelD (q : DV) (es : List (Nat × DV × DV)) (X : List (Nat × DV × DV) → Prop) : Prop := match mget q es 0 with | some (j, _) => X (es.eraseIdx j) | none => X es
structure mlook (q : DV) (es : List (Nat × DV × DV)) (z : DV) (X : DV → Prop) : Prop where
  h : mlookD q es z X
theorem mlook_case {q : DV} {es : List (Nat × DV × DV)} {z : DV} {X : DV → Prop} (h : mcase q es 0 (fun _ v => X v) (X z)) : mlook q es z X := by
  refine ⟨?_⟩; unfold mlookD; rw [mcase_eq] at h; exact h
structure mput (q y : DV) (es : List (Nat × DV × DV)) (clock : Nat) (X : Nat → List (Nat × DV × DV) → Prop) : Prop where
  h : mputD q y es clock X
structure mdel (q : DV) (es : List (Nat × DV × DV)) (X : List (Nat × DV × DV) → Prop) : Prop where
  h : mdelD q es X
def kkOf : TK → Option KK
  | .int k => some (.int k)
  | .str => some .str
  | .bool => some .bool
  | _ => none
def kkEq : KK → KK → Bool
  | .int k, .int k' => ikEq k k'
  | .str, .str => true
  | .bool, .bool => true
  | _, _ => false
def keyB : KK → DV → Bool
  | .int k, .int k' _ => ikEq k' k
  | .str, .str _ => true
  | .bool, .bool _ => true
  | _, _ => false

def aMkMap (T : Tab) (σ : List AObj) (t : Nat) (r : Option Val) (K : Val → List AObj → Prop) : Prop :=
  match T.ti t with
  | some i => match i.k with
    | .map kt _ => match T.ti kt with
      | some j => match kkOf j.k with
        | some kk => match r with
          | none => K (.c (.mp σ.length)) (σ ++ [.mp kk 0 []])
          | some (.c (.d (.int _ _))) => K (.c (.mp σ.length)) (σ ++ [.mp kk 0 []])
          | _ => False
        | none => False
      | none => False
    | _ => False
  | none => False
/-- With the map's entries, its kind of keys checked. -/
def aWithMap (T : Tab) (σ : List AObj) (t : Nat) (x : Val) (K : Nat → Nat → KK → Nat → List (Nat × DV × DV) → Prop) : Prop :=
  match T.ti t with
  | some i => match i.k with
    | .map kt et => match T.ti kt with
      | some j => match kkOf j.k with
        | some kk => match x with
          | .c (.mp o) => match σ[o]? with
            | some (.mp kk' clock es) => bif kkEq kk' kk then K o et kk clock es else False
            | _ => False
          | _ => False
        | none => False
      | none => False
    | _ => False
  | none => False
def aLookup (T : Tab) (σ : List AObj) (t : Nat) (x key : Val) (ok : Bool) (K : Val → Prop) : Prop :=
  aWithMap T σ t x fun _ et kk _ es => match T.ti et with
    | some je => match je.zero with
      | [z] => match key with
        | .c (.d q) => bif keyB kk q && !je.agg then (match ok with
          | true => mcase q es 0 (fun _ v => K (.tup [.c (.d v), .c (.d (.bool true))])) (K (.tup [.c (.d z), .c (.d (.bool false))]))
          | false => mlook q es z (fun v => K (.c (.d v)))) else False
        | _ => False
      | _ => False
    | none => False
def aMapSet0 (T : Tab) (σ : List AObj) (t : Nat) (x key v : Val) (K : List AObj → Prop) : Prop :=
  aWithMap T σ t x fun o et kk clock es => match key, v with
    | .c (.d q), .c (.d y) => bif keyB kk q then mput q y es clock (fun clock' es' => K (σ.set o (.mp kk clock' es'))) else False
    | _, _ => False
def aMapSet (T : Tab) (ρ : Nat) (σ : List AObj) (t : Nat) (x key v : Val) (K : List AObj → Prop) : Prop := match v with
  | .c (.fn g first cap) => frz1 ρ σ (.fn g first cap) none fun y σ' => aMapSet0 T σ' t x key (.c (.d y)) K
  | v => aMapSet0 T σ t x key v K

def aMapDel (T : Tab) (σ : List AObj) (t : Nat) (x key : Val) (K : Val → List AObj → Prop) : Prop :=
  aWithMap T σ t x fun o et kk clock es => match key with
    | .c (.d q) => bif keyB kk q then mdel q es (fun es' => K (.tup []) (σ.set o (.mp kk clock es'))) else False
    | _ => False
def aRange (T : Tab) (σ : List AObj) (t : Nat) (x : Val) (K : Val → List AObj → Prop) : Prop := match x with
  | .c (.d (.str s)) => match T.ti t with
    | some i => match i.k with
      | .str => K (.c (.ptr σ.length 0)) (σ ++ [.it (.d (.str s)) 0 [] 0])
      | _ => False
    | none => False
  | x => aWithMap T σ t x fun o et kk clock es => K (.c (.ptr σ.length 0)) (σ ++ [.it (.mp o) clock [] clock])
/-- What an iterator over a map is at. -/
def aWithIt (σ : List AObj) (x : Val) (K : Nat → Nat → Nat → List Nat → Nat → KK → Nat → List (Nat × DV × DV) → Prop) : Prop :=
  match x with
  | .c (.ptr o 0) => match σ[o]? with
    | some (.it (.mp m) since seen c0) => match σ[m]? with
      | some (.mp kk clock es) => K o m since seen c0 kk clock es
      | _ => False
    | _ => False
  | _ => False
def aNext (σ : List AObj) (x : Val) (isS : Bool) (K : Val → List AObj → Prop) : Prop :=
  match isS with
  | true => match x with
    | .c (.ptr o 0) => match σ[o]? with
      | some (.it (.d (.str s)) pos _ _) => (∀ h : pos < s.size, K (.tup [.c (.d (.bool true)), .c (.d (.int .i64 pos)), .c (.d (.int .i32 (Utf8.decode s pos).1))]) (σ.set o (.it (.d (.str s)) (pos + (Utf8.decode s pos).2) [] 0))) ∧
          (¬ pos < s.size → K (.tup [.c (.d (.bool false))]) σ)
      | _ => False
    | _ => False
  | false => aWithIt σ x fun o m since seen c0 kk clock es => ((∀ y ∈ es, y.1 < since) ∧ since ≤ c0) ∧ ((∀ y ∈ es, y.1 ∈ seen) → K (.tup [.c (.d (.bool false))]) σ) ∧
      ∀ y ∈ es, y.1 ∉ seen → K (.tup [.c (.d (.bool true)), .c (.d y.2.1), .c (.d y.2.2)]) (σ.set o (.it (.mp m) since (seen ++ [y.1]) clock))
def aEntry (σ : List AObj) (x : Val) (K : Val → Prop) : Prop :=
  aWithIt σ x fun o m since seen c0 kk clock es => ∃ y l, y ∈ es ∧ seen = l ++ [y.1] ∧ clock = c0 ∧ (es.map (·.1)).Nodup ∧ K (.tup [.c (.d y.2.1), .c (.d y.2.2)])

def bornAt (es : List (Nat × DV × DV)) (j : Nat) : Nat := match es[j]? with | some x => x.1 | none => 0
def bfind (n : Int) : List (Nat × DV × DV) → Nat → Option Nat
  | [], _ => none
  | (b, _, _) :: l, i => if ((b : Int) == n) = true then some i else bfind n l (i + 1)
def aMapEntry (T : Tab) (σ : List AObj) (t : Nat) (x key : Val) (K : Val → List AObj → Prop) : Prop :=
  aWithMap T σ t x fun o et kk clock es => match T.ti et with
    | some je => match je.zero with
      | [z] => match key with
        | .c (.d q) => bif keyB kk q && !je.agg then mcase q es 0 (fun j v => K (.tup [.c (.d v), .c (.d (.int .i64 (bornAt es j)))]) (σ.set o (.mp kk clock es))) (K (.tup [.c (.d z), .c (.d (.int .i64 clock))]) (σ.set o (.mp kk (clock + 1) (es ++ [(clock, q, z)])))) else False
        | _ => False
      | _ => False
    | none => False
def aEntrySet (T : Tab) (σ : List AObj) (t : Nat) (x stamp v : Val) (K : List AObj → Prop) : Prop :=
  aWithMap T σ t x fun o et kk clock es => match stamp, v with
    | .c (.d (.int _ n)), .c (.d y) => (match bfind n es 0 with
      | some j => K (σ.set o (.mp kk clock (mset j y es)))
      | none => False)
    | _, _ => False

section
variable {P : Program} {T : Tab} (HT : TabOk P T)

def kkDesc : KK → TypeDesc
  | .int k => .int k
  | .str => .string
  | .bool => .bool
theorem kkOf_desc {tk : TK} {kk : KK} {d : TypeDesc} (h : kkOf tk = some kk) (hd : kindOk tk d = true) : d = kkDesc kk := by
  cases tk <;> simp [kkOf] at h <;> subst h <;> cases d <;> simp_all [kindOk, kkDesc]
theorem kkEq_eq {a b : KK} (h : kkEq a b = true) : a = b := by
  cases a <;> cases b <;> simp [kkEq] at h
  · rw [ikEq_eq h]
  · rfl
  · rfl
theorem keyB_ok {kk : KK} {q : DV} (h : keyB kk q = true) : keyOk kk q = true := by
  cases kk <;> cases q <;> simp [keyB] at h
  · simp [keyOk, ikEq_eq h]
  · rfl
  · rfl
theorem key_is {kk : KK} {q : DV} {u : Value} {w : World} {rg : Nat → Option Nat} (h : keyOk kk q = true) (hr : RepD w rg u q) : MapKept.IsKey (kkDesc kk) u := by
  cases kk <;> cases q <;> simp [keyOk] at h <;> cases hr <;> simp [MapKept.IsKey, kkDesc, h]
theorem key_eq {kk : KK} {q q' : DV} {u u' : Value} {w : World} {rg : Nat → Option Nat} (h : keyOk kk q = true) (h' : keyOk kk q' = true) (hr : RepD w rg u q) (hr' : RepD w rg u' q') : Instr.sameNow (kkDesc kk) u u' = some (dvEq q q') ∧ (dvEq q q' = true → u = u') := by
  cases kk <;> cases q <;> simp [keyOk] at h <;> cases q' <;> simp [keyOk] at h' <;> cases hr <;> cases hr'
  · subst h; subst h'
    have : ∀ k : IntKind, ikEq k k = true := fun k => by cases k <;> rfl
    simp [Instr.sameNow, kkDesc, dvEq, this]
  · rename_i a b
    refine ⟨?_, fun e => by simp [dvEq] at e; rw [e]⟩
    simp only [Instr.sameNow, kkDesc, dvEq]
    congr 1
    rw [Bool.eq_iff_iff, MapKept.bytes_beq, decide_eq_true_eq]
  · simp [Instr.sameNow, kkDesc, dvEq]
def EntOk (w : World) (C : Cz) (kk : KK) (me : MapEntry) (x : Nat × DV × DV) : Prop := me.born = x.1 ∧ RepD w C.rg me.key x.2.1 ∧ RepD w C.rg me.val x.2.2 ∧ keyOk kk x.2.1 = true
theorem find_rep {w : World} {C : Cz} {kk : KK} {q : DV} {u : Value} (hq : keyOk kk q = true) (hu : RepD w C.rg u q) : ∀ (arr : List MapEntry) (es : List (Nat × DV × DV)) (i : Nat), arr.length = es.length →
    (∀ (i : Nat) me x, arr[i]? = some me → es[i]? = some x → EntOk w C kk me x) →
    (mget q es i = none ∧ Instr.findNow (kkDesc kk) u arr i = some none) ∨ (∃ j me x, mget q es i = some (i + j, x.2.2) ∧ Instr.findNow (kkDesc kk) u arr i = some (some (i + j, me.val)) ∧ arr[j]? = some me ∧ es[j]? = some x ∧ me.key = u)
  | [], [], i, _, _ => .inl ⟨rfl, rfl⟩
  | me :: arr, x :: es, i, hl, h => by
    obtain ⟨b, k, v⟩ := x
    obtain ⟨e1, e2, e3, e4⟩ := h 0 me _ rfl rfl
    simp only at e2 e4
    obtain ⟨k1, k2⟩ := key_eq hq e4 hu e2
    cases hd : dvEq q k with
    | true =>
      refine .inr ⟨0, me, (b, k, v), ?_, ?_, rfl, rfl, (k2 hd).symm⟩
      · simp [mget, hd]
      · simp [Instr.findNow, k1, hd]
    | false =>
      rcases find_rep hq hu arr es (i + 1) (by simpa using hl) (fun j me x h1 h2 => h (j + 1) me x (by simpa using h1) (by simpa using h2)) with ⟨h1, h2⟩ | ⟨j, me', x, h1, h2, h3, h4, h5⟩
      · exact .inl ⟨by simp [mget, hd, h1], by simp [Instr.findNow, k1, hd, h2]⟩
      · refine .inr ⟨j + 1, me', x, ?_, ?_, by simpa using h3, by simpa using h4, h5⟩
        · simp only [mget, hd, Bool.false_eq_true, if_false, h1]; congr 2; omega
        · simp only [Instr.findNow, k1, hd, h2]; congr 3; omega

include HT in
theorem ok_mkMap {w : World} {C : Cz} {σ : List AObj} (hI : Inv w C σ) {t : Nat} {u : Option Value} {r : Option Val} (hr : ∀ v x, u = some v → r = some x → RepV w C v x) (hur : u.isSome = r.isSome) {K : Val → List AObj → Prop}
    (hk : aMkMap T σ t r K) : OK1 P (Instr.makeMap t u) w C σ K := by
  unfold aMkMap at hk
  split at hk
  · rename_i i hi
    obtain ⟨info, d, z, h1, h2, h3, h4, h6, h7, h8, h9, h10, h11, h12⟩ := ti_parts (HT.ti t i hi)
    split at hk
    · rename_i kt et hik
      rw [hik] at h3
      obtain rfl : d = .map kt et := by
        cases d <;> first | (cases h3; done) | skip
        simp only [kindOk, Bool.and_eq_true, beq_iff_eq] at h3
        obtain ⟨rfl, rfl⟩ := h3; rfl
      split at hk
      · rename_i j hj
        split at hk
        · rename_i kk hkk
          have fin : (Instr.makeMap t u).run P w = .ok (.map (some w.heap.size)) (w.alloc (.map #[] 0)) → K (.c (.mp σ.length)) (σ ++ [.mp kk 0 []]) → OK1 P (Instr.makeMap t u) w C σ K := fun hrun hk => by
            let en : Ent := ⟨false, some w.heap.size, 0, .nilFunc⟩
            have hold : ∀ b, b < w.heap.size → (w.alloc (.map #[] 0)).heap[b]? = w.heap[b]? := fun b hb => alloc_old w _ hb
            have hsz : w.heap.size < (w.alloc (.map #[] 0)).heap.size := by simp
            have hnew : ∀ b, en.b = some b → w.heap.size ≤ b ∧ b < (w.alloc (.map #[] 0)).heap.size := fun b hb => by
              cases hb
              exact ⟨Nat.le_refl _, hsz⟩
            exact ⟨_, _, C.add en, _, _, hrun, hk, hI.addNew (Nat.le_of_lt hsz) hold hnew ⟨rfl, w.heap.size, #[], rfl, alloc_new w _, rfl, fun i me x h => by simp at h⟩,
              Ext.addNew hI rfl rfl rfl (Nat.le_of_lt hsz) hold (fun b hb => (hnew b hb).1), .c _ _ (.mp σ.length w.heap.size en (by simp [Cz.add, ← hI.len]) rfl rfl)⟩
          split at hk
          · cases u with
            | none => exact fin rfl hk
            | some v => simp at hur
          · rename_i k n
            cases u with
            | none => simp at hur
            | some v =>
              have := int_of (hr v _ rfl rfl)
              subst this
              exact fin (by simp [Instr.makeMap, run_underlying h2, asInt, asIntOf]) hk
          · exact hk.elim
        · exact hk.elim
      · exact hk.elim
    · exact hk.elim
  · exact hk.elim

include HT in
theorem with_map {w : World} {C : Cz} {σ : List AObj} (hI : Inv w C σ) {t : Nat} {u : Value} {x : Val} (hx : RepV w C u x) {K : Nat → Nat → KK → Nat → List (Nat × DV × DV) → Prop} (hk : aWithMap T σ t x K) :
    ∃ kt et kk o e b arr clock es, P.underlying t = some (.map kt et) ∧ P.underlying kt = some (kkDesc kk) ∧ u = .map (some b) ∧ σ[o]? = some (.mp kk clock es) ∧ C.θ[o]? = some e ∧ e.row = false ∧ e.b = some b ∧ w.heap[b]? = some (.map arr clock) ∧ arr.size = es.length ∧
      (∀ (i : Nat) me x, arr.toList[i]? = some me → es[i]? = some x → EntOk w C kk me x) ∧ K o et kk clock es := by
  unfold aWithMap at hk
  split at hk
  · rename_i i hi
    obtain ⟨info, d, z, h1, h2, h3, h4, h6, h7, h8, h9, h10, h11, h12⟩ := ti_parts (HT.ti t i hi)
    split at hk
    · rename_i kt et hik
      rw [hik] at h3
      obtain rfl : d = .map kt et := by
        cases d <;> first | (cases h3; done) | skip
        simp only [kindOk, Bool.and_eq_true, beq_iff_eq] at h3
        obtain ⟨rfl, rfl⟩ := h3; rfl
      split at hk
      · rename_i j hj
        obtain ⟨ie, d2, ze, k1, k2, k3, k4, k6, k7, k8, k9, k10, k11, k12⟩ := ti_parts (HT.ti kt j hj)
        split at hk
        · rename_i kk hkk
          have hd := kkOf_desc hkk k3
          subst hd
          split at hk
          · rename_i o
            split at hk
            · rename_i kk' clock es ho
              cases hq : kkEq kk' kk with
              | false => rw [hq] at hk; exact hk.elim
              | true =>
              rw [hq] at hk
              have := kkEq_eq hq
              subst this
              have hx := c_of hx
              cases hx with
              | mp _ b e he hr hb =>
              obtain ⟨g1, b', arr, g2, g3, g4, g5⟩ := hI.ok o _ e ho he
              rw [hb] at g2; cases g2
              exact ⟨kt, et, kk', o, e, b, arr, clock, es, h2, k2, rfl, ho, he, hr, hb, g3, g4, fun i me x h1 h2 => g5 i me x (by simpa using h1) h2, hk⟩
            · exact hk.elim
          · exact hk.elim
        · exact hk.elim
      · exact hk.elim
    · exact hk.elim
  · exact hk.elim

include HT in
theorem ok_lookup {w : World} {C : Cz} {σ : List AObj} (hI : Inv w C σ) {t : Nat} {u v : Value} {x key : Val} (hx : RepV w C u x) (hv : RepV w C v key) (ok : Bool) {K : Val → List AObj → Prop}
    (hk : aLookup T σ t x key ok (fun y => K y σ)) : OK1 P (Instr.lookup t u v ok) w C σ K := by
  unfold aLookup at hk
  have H := with_map HT hI hx hk
  clear hk
  obtain ⟨kt, et, kk, o, e, b, arr, clock, es, h1, h2, rfl, ho, he, hr, hb, hh, hl, hent, hk⟩ := H
  split at hk
  · rename_i je hje
    obtain ⟨ie, d2, ze, k1, k2, k3, k4, k6, k7, k8, k9, k10, k11, k12⟩ := ti_parts (HT.ti et je hje)
    split at hk
    · rename_i z hz
      split at hk
      · rename_i q
        cases hg : keyB kk q && !je.agg with
        | false => rw [hg] at hk; exact hk.elim
        | true =>
        rw [hg] at hk
        simp only [Bool.and_eq_true, Bool.not_eq_true'] at hg
        obtain ⟨g1, g2⟩ := hg
        have hq := keyB_ok g1
        have hu := repA_d (c_of hv)
        simp only [cond_true] at hk
        have hk : (match ok with | true => (match mget q es 0 with | some (_, v) => K (.tup [.c (.d v), .c (.d (.bool true))]) σ | none => K (.tup [.c (.d z), .c (.d (.bool false))]) σ) | false => (match mget q es 0 with | some (_, v) => K (.c (.d v)) σ | none => K (.c (.d z)) σ)) := by
          cases ok
          · simpa only [mlookD] using hk.h
          · simpa only [mcase_eq] using hk
        have hck : ∀ em, (Instr.checkKey em 10000 kt v).run P w = .ok () w := fun em => MapKept.run_checkKey (k := v) h2 (key_is hq hu) em 9999
        rcases find_rep hq hu arr.toList es 0 (by simpa using hl) hent with ⟨f1, f2⟩ | ⟨j, me, y, f1, f2, f3, f4, f5⟩
        · rw [f1] at hk
          simp only at hk
          have hzr : RepD w C.rg ze z := by
            rw [hz] at k9
            have hne : ¬ ∃ a, ze = .agg a := fun h => by rw [k12.2 h] at g2; cases g2
            have hc : ze.cells = #[ze] := by cases ze <;> first | rfl | (exact absurd ⟨_, rfl⟩ hne)
            rw [hc] at k9
            simp only [allZ, Bool.and_true] at k9
            exact isZ_rep k9
          have hrun : (Instr.lookup t (.map (some b)) v ok).run P w = .ok (if ok then .tuple #[ze, .bool false] else ze) w := by
            simp only [Instr.lookup, Sem.run_bind, run_underlying h1, Result.andThen_ok, MapKept.run_getObj_map hh, Sem.run_pure, hck, MapKept.run_findKey h2 f2]
            simp [zeroValue, typeInfo, k1, k8]
          cases ok with
          | false => exact OK1.same hI (v := ze) (by rw [hrun]; rfl) hk (.c _ _ (.d _ _ hzr))
          | true => exact OK1.same hI (v := .tuple #[ze, .bool false]) (by rw [hrun]; rfl) hk (.tup _ _ rfl (fun i v x h1 h2 => by
              match i with
              | 0 => simp at h1 h2; subst h1; subst h2; exact .c _ _ (.d _ _ hzr)
              | 1 => simp at h1 h2; subst h1; subst h2; exact .c _ _ (.d _ _ (.bool _))
              | i + 2 => simp at h1))
        · rw [f1] at hk
          simp only at hk
          obtain ⟨q1, q2, q3, q4⟩ := hent j me y f3 f4
          have hrun : (Instr.lookup t (.map (some b)) v ok).run P w = .ok (if ok then .tuple #[me.val, .bool true] else me.val) w := by
            simp only [Instr.lookup, Sem.run_bind, run_underlying h1, Result.andThen_ok, MapKept.run_getObj_map hh, Sem.run_pure, hck, MapKept.run_findKey h2 f2]
          cases ok with
          | false => exact OK1.same hI (v := me.val) (by rw [hrun]; rfl) hk (.c _ _ (.d _ _ q3))
          | true => exact OK1.same hI (v := .tuple #[me.val, .bool true]) (by rw [hrun]; rfl) hk (.tup _ _ rfl (fun i v x h1 h2 => by
              match i with
              | 0 => simp at h1 h2; subst h1; subst h2; exact .c _ _ (.d _ _ q3)
              | 1 => simp at h1 h2; subst h1; subst h2; exact .c _ _ (.d _ _ (.bool _))
              | i + 2 => simp at h1))
      · exact hk.elim
    · exact hk.elim
  · exact hk.elim

/-! ### Writes -/
theorem mset_len (j : Nat) (v : DV) : ∀ es : List (Nat × DV × DV), (mset j v es).length = es.length := by
  intro es
  induction es generalizing j with
  | nil => simp [mset]
  | cons x l ih => cases j <;> simp [mset, ih]
theorem mset_get (v : DV) : ∀ (es : List (Nat × DV × DV)) (j i : Nat) x, (mset j v es)[i]? = some x → ∃ y, es[i]? = some y ∧ ((i = j ∧ x = (y.1, y.2.1, v)) ∨ (i ≠ j ∧ x = y))
  | [], j, i, x, h => by simp [mset] at h
  | (b, k, u) :: l, 0, 0, x, h => by simp [mset] at h; subst h; exact ⟨_, rfl, .inl ⟨rfl, rfl⟩⟩
  | (b, k, u) :: l, 0, i + 1, x, h => by simp [mset] at h; exact ⟨x, by simpa using h, .inr ⟨by omega, rfl⟩⟩
  | (b, k, u) :: l, j + 1, 0, x, h => by simp [mset] at h; subst h; exact ⟨_, rfl, .inr ⟨by omega, rfl⟩⟩
  | (b, k, u) :: l, j + 1, i + 1, x, h => by
    simp only [mset, List.getElem?_cons_succ] at h ⊢
    obtain ⟨y, h1, h2⟩ := mset_get v l j i x h
    rcases h2 with ⟨a, b⟩ | ⟨a, b⟩
    · exact ⟨y, h1, .inl ⟨by omega, b⟩⟩
    · exact ⟨y, h1, .inr ⟨by omega, b⟩⟩
theorem same_self {d : TypeDesc} {u : Value} (h : MapKept.IsKey d u) (n : Nat) : Instr.sameBits n u u = true := by
  cases d <;> cases u <;> simp [MapKept.IsKey] at h <;> cases n <;> simp [Instr.sameBits, MapKept.bytes_beq]
/-- A map's block is written. -/
theorem map_upd {w : World} {C : Cz} {σ : List AObj} (hI : Inv w C σ) {o b : Nat} {e : Ent} {kk : KK} {clock clock' : Nat} {es es' : List (Nat × DV × DV)} {arr arr' : Array MapEntry} (ho : σ[o]? = some (.mp kk clock es)) (he : C.θ[o]? = some e) (hr : e.row = false) (hb : e.b = some b)
    (hh : w.heap[b]? = some (.map arr clock)) (hl : arr'.size = es'.length) (hent : ∀ (i : Nat) me x, arr'.toList[i]? = some me → es'[i]? = some x → EntOk w C kk me x) :
    ∃ C', Inv { w with heap := w.heap.setIfInBounds b (.map arr' clock') } C' (σ.set o (.mp kk clock' es')) ∧ Ext w C σ { w with heap := w.heap.setIfInBounds b (.map arr' clock') } C' (σ.set o (.mp kk clock' es')) := by
  have hlt : b < w.heap.size := (Array.getElem?_eq_some_iff.1 hh).1
  have hold : ∀ b', b' < w.heap.size → e.b ≠ some b' → ({ w with heap := w.heap.setIfInBounds b (.map arr' clock') } : World).heap[b']? = w.heap[b']? := fun b' _ hne => (MapKept.heap_set hh).2 b' (fun e1 => hne (by rw [hb, e1]))
  obtain ⟨u1, u2⟩ := hI.upd (w' := { w with heap := w.heap.setIfInBounds b (.map arr' clock') }) (o' := .mp kk clock' es') (e' := e) ho he rfl (by simp) (.refl e) hold (fun b' hb' => .inl hb') (fun hc => ⟨hr, b, arr', hb, (MapKept.heap_set hh).1, hl, fun i me x h1 h2 => by
    obtain ⟨q1, q2, q3, q4⟩ := hent i me x (by simpa using h1) h2
    exact ⟨q1, q2.mono hc.rg, q3.mono hc.rg, q4⟩⟩)
  exact ⟨_, u2, Ext.upd hI ho he rfl rfl rfl rfl (by simp) u1 hold (fun b' hb' => .inl hb')⟩

include HT in
theorem ok_mapSet0 {w : World} {C : Cz} {σ : List AObj} (hI : Inv w C σ) {t : Nat} {u v z : Value} {x key y : Val} (hx : RepV w C u x) (hv : RepV w C v key) (hz : RepV w C z y) {K : List AObj → Prop}
    (hk : aMapSet0 T σ t x key y K) : ∃ w' C' σ', (Instr.mapUpdate t u v z).run P w = .ok () w' ∧ K σ' ∧ Inv w' C' σ' ∧ Ext w C σ w' C' σ' := by
  unfold aMapSet0 at hk
  have H := with_map HT hI hx hk
  clear hk
  obtain ⟨kt, et, kk, o, e, b, arr, clock, es, h1, h2, rfl, ho, he, hr, hb, hh, hl, hent, hk⟩ := H
  split at hk
  · rename_i q yy
    cases hg : keyB kk q with
    | false => rw [hg] at hk; exact hk.elim
    | true =>
    rw [hg] at hk
    have hq := keyB_ok hg
    have hu := repA_d (c_of hv)
    have hzz := repA_d (c_of hz)
    simp only [cond_true] at hk
    replace hk := hk.h
    simp only [mputD] at hk
    have hik := key_is hq hu
    have hck : ∀ em, (Instr.checkKey em 10000 kt v).run P w = .ok () w := fun em => MapKept.run_checkKey (k := v) h2 hik em 9999
    rcases find_rep hq hu arr.toList es 0 (by simpa using hl) hent with ⟨f1, f2⟩ | ⟨j, me, y0, f1, f2, f3, f4, f5⟩
    · rw [f1] at hk
      simp only at hk
      obtain ⟨C', i1, i2⟩ := map_upd (clock' := clock + 1) (arr' := arr.push { key := v, val := z, born := clock }) (es' := es ++ [(clock, q, yy)]) hI ho he hr hb hh (by simp [hl]) (fun i me x g1 g2 => by
        simp only [Array.toList_push] at g1
        rcases add_get _ _ _ _ g1 with ⟨a1, a2⟩ | ⟨a1, a2⟩ <;> rcases add_get _ _ _ _ g2 with ⟨b1, b2⟩ | ⟨b1, b2⟩
        · exact hent i me x a2 b2
        · simp at a1; omega
        · simp at a1; omega
        · subst a2; subst b2; exact ⟨rfl, hu, hzz, hq⟩)
      refine ⟨_, C', _, ?_, hk, i1, i2⟩
      simp only [Instr.mapUpdate, Sem.run_bind, run_underlying h1, Result.andThen_ok, MapKept.run_getObj_map hh, hck, MapKept.run_findKey h2 f2, MapKept.run_setObj_map _ hh]
    · rw [f1] at hk
      simp only [Nat.zero_add] at hk f2
      obtain ⟨C', i1, i2⟩ := map_upd (clock' := clock) (arr' := arr.modify j fun e => { e with key := v, val := z }) (es' := mset j yy es) hI ho he hr hb hh (by simp [hl, mset_len]) (fun i me' x g1 g2 => by
        obtain ⟨y1, r1, r2⟩ := mset_get yy es j i x g2
        simp only [Array.getElem?_toList, Array.getElem?_modify] at g1
        rcases r2 with ⟨rfl, rfl⟩ | ⟨hne, rfl⟩
        · rw [if_pos rfl] at g1
          cases ha : arr[i]? with
          | none => rw [ha] at g1; cases g1
          | some m0 =>
            rw [ha] at g1
            cases g1
            obtain ⟨q1, q2, q3, q4⟩ := hent i m0 y1 (by simpa using ha) r1
            rw [f4] at r1
            cases r1
            rw [Array.getElem?_toList] at f3
            rw [ha] at f3
            cases f3
            exact ⟨q1, by rw [← f5]; exact q2, hzz, q4⟩
        · rw [if_neg (fun e => hne e.symm)] at g1
          exact hent i me' _ (by simpa using g1) r1)
      refine ⟨_, C', _, ?_, hk, i1, i2⟩
      have hold : ((arr[j]?).map (·.key)).getD v = v := by
        rw [Array.getElem?_toList] at f3
        rw [f3]; exact f5
      have hstay : (Instr.keyThatStays v v).run P w = .ok v w := by simp [Instr.keyThatStays, same_self hik]
      simp only [Instr.mapUpdate, Sem.run_bind, run_underlying h1, Result.andThen_ok, MapKept.run_getObj_map hh, hck, MapKept.run_findKey h2 f2, hold, hstay, MapKept.run_setObj_map _ hh]
  · exact hk.elim

include HT in
theorem ok_mapSet (ρ : Nat) {w : World} {C : Cz} {σ : List AObj} (hI : Inv w C σ) {t : Nat} {u v z : Value} {x key y : Val} (hx : RepV w C u x) (hv : RepV w C v key) (hz : RepV w C z y) {K : List AObj → Prop}
    (hk : aMapSet T ρ σ t x key y K) : ∃ w' C' σ', (Instr.mapUpdate t u v z).run P w = .ok () w' ∧ K σ' ∧ Inv w' C' σ' ∧ Ext w C σ w' C' σ' := by
  unfold aMapSet at hk
  split at hk
  · obtain ⟨C1, d, σ1, k1, l1, I1, E1, r1⟩ := frz1_ok hI ρ (c_of hz) hk
    obtain ⟨w2, C2, σ2, q1, q2, q3, q4⟩ := ok_mapSet0 HT I1 (hx.mono l1) (hv.mono l1) (.c _ _ (.d _ _ r1)) k1
    exact ⟨w2, C2, σ2, q1, q2, q3, E1.trans q4⟩
  · exact ok_mapSet0 HT hI hx hv hz hk

theorem zero_one {z : DV} {je : TI} {ze : Value} {w : World} {rg : Nat → Option Nat} (hz : je.zero = [z]) (g2 : je.agg = false) (k9 : allZ je.zero ze.cells.toList = true) (k12 : je.agg = true ↔ ∃ arr, ze = .agg arr) : RepD w rg ze z := by
  rw [hz] at k9
  have hne : ¬ ∃ a, ze = .agg a := fun h => by rw [k12.2 h] at g2; cases g2
  have hc : ze.cells = #[ze] := by cases ze <;> first | rfl | (exact absurd ⟨_, rfl⟩ hne)
  rw [hc] at k9
  simp only [allZ, Bool.and_true] at k9
  exact isZ_rep k9

include HT in
theorem ok_mapEntry {w : World} {C : Cz} {σ : List AObj} (hI : Inv w C σ) {t : Nat} {u v : Value} {x key : Val} (hx : RepV w C u x) (hv : RepV w C v key) {K : Val → List AObj → Prop}
    (hk : aMapEntry T σ t x key K) : OK1 P (Instr.mapEntry t u v) w C σ K := by
  unfold aMapEntry at hk
  have H := with_map HT hI hx hk
  clear hk
  obtain ⟨kt, et, kk, o, e, b, arr, clock, es, h1, h2, rfl, ho, he, hr, hb, hh, hl, hent, hk⟩ := H
  split at hk
  · rename_i je hje
    obtain ⟨ie, d2, ze, k1, k2, k3, k4, k6, k7, k8, k9, k10, k11, k12⟩ := ti_parts (HT.ti et je hje)
    split at hk
    · rename_i z hz
      split at hk
      · rename_i q
        cases hg : keyB kk q && !je.agg with
        | false => rw [hg] at hk; exact hk.elim
        | true =>
        rw [hg] at hk
        simp only [Bool.and_eq_true, Bool.not_eq_true'] at hg
        obtain ⟨g1, g2⟩ := hg
        have hq := keyB_ok g1
        have hu := repA_d (c_of hv)
        simp only [cond_true, mcase_eq] at hk
        have hik := key_is hq hu
        have hck : ∀ em, (Instr.checkKey em 10000 kt v).run P w = .ok () w := fun em => MapKept.run_checkKey (k := v) h2 hik em 9999
        have tup : ∀ {w : World} {C : Cz} {v1 v2 : Value} {x1 x2 : DV}, RepD w C.rg v1 x1 → RepD w C.rg v2 x2 → RepV w C (.tuple #[v1, v2]) (.tup [.c (.d x1), .c (.d x2)]) := fun a1 a2 => .tup _ _ rfl (fun i v x h1 h2 => by
          match i with
          | 0 => simp at h1 h2; subst h1; subst h2; exact .c _ _ (.d _ _ a1)
          | 1 => simp at h1 h2; subst h1; subst h2; exact .c _ _ (.d _ _ a2)
          | i + 2 => simp at h1)
        rcases find_rep hq hu arr.toList es 0 (by simpa using hl) hent with ⟨f1, f2⟩ | ⟨j, me, y, f1, f2, f3, f4, f5⟩
        · rw [f1] at hk
          simp only at hk
          obtain ⟨C', i1, i2⟩ := map_upd (clock' := clock + 1) (arr' := arr.push { key := v, val := ze, born := clock }) (es' := es ++ [(clock, q, z)]) hI ho he hr hb hh (by simp [hl]) (fun i me x g1 g2' => by
            simp only [Array.toList_push] at g1
            rcases add_get _ _ _ _ g1 with ⟨a1, a2⟩ | ⟨a1, a2⟩ <;> rcases add_get _ _ _ _ g2' with ⟨b1, b2⟩ | ⟨b1, b2⟩
            · exact hent i me x a2 b2
            · simp at a1; omega
            · simp at a1; omega
            · subst a2; subst b2; exact ⟨rfl, hu, zero_one hz g2 k9 k12, hq⟩)
          refine ⟨.tuple #[ze, goInt clock], _, C', _, _, ?_, hk, i1, i2, tup (zero_one hz g2 k9 k12) (.int _ _)⟩
          simp only [Instr.mapEntry, Sem.run_bind, run_underlying h1, Result.andThen_ok, MapKept.run_getObj_map hh, hck, MapKept.run_findKey h2 f2]
          simp [zeroValue, typeInfo, k1, k8, MapKept.run_setObj_map _ hh]
        · rw [f1] at hk
          simp only [Nat.zero_add] at hk f2
          obtain ⟨C', i1, i2⟩ := map_upd (clock' := clock) (arr' := arr.modify j fun e => { e with key := v }) (es' := es) hI ho he hr hb hh (by simp [hl]) (fun i me' x g1 r1 => by
            simp only [Array.getElem?_toList, Array.getElem?_modify] at g1
            by_cases hji : j = i
            · subst hji
              rw [if_pos rfl] at g1
              rw [Array.getElem?_toList] at f3
              rw [f3] at g1
              cases g1
              obtain ⟨q1, q2, q3, q4⟩ := hent j me x (by rw [Array.getElem?_toList]; exact f3) r1
              exact ⟨q1, by rw [← f5]; exact q2, q3, q4⟩
            · rw [if_neg hji] at g1
              exact hent i me' _ (by simpa using g1) r1)
          obtain ⟨q1, q2, q3, q4⟩ := hent j me y f3 f4
          have hle := i2.le
          refine ⟨.tuple #[me.val, goInt me.born], _, C', _, _, ?_, hk, i1, i2, tup (q3.mono hle.rg) ?_⟩
          · have f3' := f3
            rw [Array.getElem?_toList] at f3'
            have hold : ((arr[j]?).map (·.key)).getD v = v := by rw [f3']; exact f5
            have hborn : (Option.map (fun x : MapEntry => (x.born : Int)) arr[j]?).getD 0 = (me.born : Int) := by rw [f3']; rfl
            have hstay : (Instr.keyThatStays v v).run P w = .ok v w := by simp [Instr.keyThatStays, same_self hik]
            simp only [Instr.mapEntry, Sem.run_bind, run_underlying h1, Result.andThen_ok, MapKept.run_getObj_map hh, hck, MapKept.run_findKey h2 f2, hold, hstay, MapKept.run_setObj_map _ hh, Sem.run_pure]
            first | rw [hborn] | simp [hborn, f3']
          · have : bornAt es j = me.born := by simp only [bornAt, f4]; exact q1.symm
            rw [this]; exact .int _ _
      · exact hk.elim
    · exact hk.elim
  · exact hk.elim

theorem bfind_rep {w : World} {C : Cz} {kk : KK} (n : Int) : ∀ (arr : List MapEntry) (es : List (Nat × DV × DV)) (i : Nat), arr.length = es.length → (∀ (i : Nat) me x, arr[i]? = some me → es[i]? = some x → EntOk w C kk me x) →
    ∀ j, bfind n es i = some j → ∃ k, j = i + k ∧ arr.findIdx? (fun e => (e.born : Int) == n) = some k
  | [], [], i, _, _, j, h => by simp [bfind] at h
  | me :: arr, x :: es, i, hl, hent, j, h => by
    obtain ⟨b, k, v⟩ := x
    obtain ⟨e1, _⟩ := hent 0 me _ rfl rfl
    simp only at e1
    simp only [bfind] at h
    rw [List.findIdx?_cons, e1]
    by_cases hb : ((b : Int) == n) = true
    · rw [if_pos hb] at h; cases h
      exact ⟨0, rfl, by rw [hb]; rfl⟩
    · rw [if_neg hb] at h
      obtain ⟨k, h1, h2⟩ := bfind_rep n arr es (i + 1) (by simpa using hl) (fun j me x g1 g2 => hent (j + 1) me x (by simpa using g1) (by simpa using g2)) j h
      refine ⟨k + 1, by omega, ?_⟩
      have : ((b : Int) == n) = false := by simpa using hb
      rw [this, h2]; rfl

include HT in
theorem ok_entrySet {w : World} {C : Cz} {σ : List AObj} (hI : Inv w C σ) {t : Nat} {u v z : Value} {x stamp y : Val} (hx : RepV w C u x) (hv : RepV w C v stamp) (hz : RepV w C z y) {K : List AObj → Prop}
    (hk : aEntrySet T σ t x stamp y K) : ∃ w' C' σ', (Instr.entryStore t u v z).run P w = .ok () w' ∧ K σ' ∧ Inv w' C' σ' ∧ Ext w C σ w' C' σ' := by
  unfold aEntrySet at hk
  have H := with_map HT hI hx hk
  clear hk
  obtain ⟨kt, et, kk, o, e, b, arr, clock, es, h1, h2, rfl, ho, he, hr, hb, hh, hl, hent, hk⟩ := H
  split at hk
  · rename_i k n yy
    have := int_of hv
    subst this
    have hzz := repA_d (c_of hz)
    split at hk
    · rename_i j hj
      obtain ⟨j', e1, f2⟩ := bfind_rep n arr.toList es 0 (by simpa using hl) hent j hj
      simp only [Nat.zero_add] at e1
      subst e1
      have f2' : arr.findIdx? (fun e => (e.born : Int) == n) = some j := by
        have : arr = arr.toList.toArray := by simp
        rw [this, List.findIdx?_toArray]; exact f2
      obtain ⟨C', i1, i2⟩ := map_upd (clock' := clock) (arr' := arr.modify j fun e => { e with val := z }) (es' := mset j yy es) hI ho he hr hb hh (by simp [hl, mset_len]) (fun i me' x g1 g2 => by
        obtain ⟨y1, r1, r2⟩ := mset_get yy es j i x g2
        simp only [Array.getElem?_toList, Array.getElem?_modify] at g1
        rcases r2 with ⟨rfl, rfl⟩ | ⟨hne, rfl⟩
        · rw [if_pos rfl] at g1
          cases ha : arr[i]? with
          | none => rw [ha] at g1; cases g1
          | some m0 =>
            rw [ha] at g1
            cases g1
            obtain ⟨q1, q2, q3, q4⟩ := hent i m0 y1 (by simpa using ha) r1
            exact ⟨q1, q2, hzz, q4⟩
        · rw [if_neg (fun e => hne e.symm)] at g1
          exact hent i me' _ (by simpa using g1) r1)
      refine ⟨_, C', _, ?_, hk, i1, i2⟩
      simp [Instr.entryStore, MapKept.run_getObj_map hh, asInt, asIntOf, f2', MapKept.run_setObj_map _ hh]
    · exact hk.elim
  · exact hk.elim

/-! ### Deleting; iterators -/
include HT in
theorem ok_mapDel {w : World} {C : Cz} {σ : List AObj} (hI : Inv w C σ) {t t' ty : Nat} {u v : Value} {x key : Val} (hx : RepV w C u x) (hv : RepV w C v key) {K : Val → List AObj → Prop}
    (hk : aMapDel T σ t x key K) : OK1 P (Builtin.delete_ #[t, t'] ty #[u, v]) w C σ K := by
  unfold aMapDel at hk
  have H := with_map HT hI hx hk
  clear hk
  obtain ⟨kt, et, kk, o, e, b, arr, clock, es, h1, h2, rfl, ho, he, hr, hb, hh, hl, hent, hk⟩ := H
  split at hk
  · rename_i q
    cases hg : keyB kk q with
    | false => rw [hg] at hk; exact hk.elim
    | true =>
    rw [hg] at hk
    have hq := keyB_ok hg
    have hu := repA_d (c_of hv)
    simp only [cond_true] at hk
    replace hk := hk.h
    simp only [mdelD] at hk
    have hik := key_is hq hu
    have hck : ∀ em, (Instr.checkKey em 10000 kt v).run P w = .ok () w := fun em => MapKept.run_checkKey (k := v) h2 hik em 9999
    rcases find_rep hq hu arr.toList es 0 (by simpa using hl) hent with ⟨f1, f2⟩ | ⟨j, me, y0, f1, f2, f3, f4, f5⟩
    · rw [f1] at hk
      simp only at hk
      obtain ⟨C', i1, i2⟩ := map_upd (clock' := clock) (arr' := arr) (es' := es) hI ho he hr hb hh hl hent
      refine ⟨.tuple #[], _, C', _, _, ?_, hk, i1, i2, .tup _ _ rfl (fun i v x h1 h2 => by simp at h1)⟩
      simp [Builtin.delete_, run_underlying h1, MapKept.run_getObj_map hh, hck, MapKept.run_findKey h2 f2, MapKept.run_setObj_map _ hh, Result.andThen]
    · rw [f1] at hk
      simp only [Nat.zero_add] at hk f2
      obtain ⟨C', i1, i2⟩ := map_upd (clock' := clock) (arr' := arr.eraseIdxIfInBounds j) (es' := es.eraseIdx j) hI ho he hr hb hh (by
        rw [← Array.length_toList, Array.toList_eraseIdxIfInBounds, List.length_eraseIdx, List.length_eraseIdx]; simp [hl]) (fun i me x g1 g2 => by
        rw [Array.toList_eraseIdxIfInBounds, List.getElem?_eraseIdx] at g1
        rw [List.getElem?_eraseIdx] at g2
        split at g1
        · rename_i hlt; rw [if_pos hlt] at g2; exact hent i me x g1 g2
        · rename_i hlt; rw [if_neg hlt] at g2; exact hent (i + 1) me x g1 g2)
      refine ⟨.tuple #[], _, C', _, _, ?_, hk, i1, i2, .tup _ _ rfl (fun i v x h1 h2 => by simp at h1)⟩
      simp [Builtin.delete_, run_underlying h1, MapKept.run_getObj_map hh, hck, MapKept.run_findKey h2 f2, MapKept.run_setObj_map _ hh, Result.andThen]
  · exact hk.elim

include HT in
theorem ok_range {w : World} {C : Cz} {σ : List AObj} (hI : Inv w C σ) {t : Nat} {u : Value} {x : Val} (hx : RepV w C u x) {K : Val → List AObj → Prop} (hk : aRange T σ t x K) : OK1 P (Instr.range t u) w C σ K := by
  unfold aRange at hk
  split at hk
  · rename_i s
    split at hk
    · rename_i i hi
      obtain ⟨_, d, _, h1, h2, h3, _⟩ := ti_parts (HT.ti t i hi)
      split at hk
      · rename_i hik
        rw [hik] at h3
        obtain rfl := kind_str h3
        have := str_of hx
        subst this
        let en : Ent := ⟨false, some w.heap.size, 0, .nilFunc⟩
        have hold : ∀ b', b' < w.heap.size → (w.alloc (.stringIter s 0)).heap[b']? = w.heap[b']? := fun b' hb' => alloc_old w _ hb'
        have hsz : w.heap.size < (w.alloc (.stringIter s 0)).heap.size := by simp
        have hnew : ∀ b', en.b = some b' → w.heap.size ≤ b' ∧ b' < (w.alloc (.stringIter s 0)).heap.size := fun b' hb' => by
          cases hb'
          exact ⟨Nat.le_refl _, hsz⟩
        exact ⟨_, _, C.add en, _, _, by simp [Instr.range, run_underlying h2, run_newObj], hk, hI.addNew (Nat.le_of_lt hsz) hold hnew ⟨rfl, w.heap.size, rfl, .inr ⟨s, rfl, alloc_new w _⟩⟩,
          Ext.addNew hI rfl rfl rfl (Nat.le_of_lt hsz) hold (fun b' hb' => (hnew b' hb').1), .c _ _ (.ptr σ.length 0 w.heap.size en (by simp [Cz.add, ← hI.len]) rfl rfl)⟩
      · exact hk.elim
    · exact hk.elim
  have H := with_map HT hI hx hk
  clear hk
  obtain ⟨kt, et, kk, o, e, b, arr, clock, es, h1, h2, rfl, ho, he, hr, hb, hh, hl, hent, hk⟩ := H
  let en : Ent := ⟨false, some w.heap.size, 0, .nilFunc⟩
  have hold : ∀ b', b' < w.heap.size → (w.alloc (.mapIter (some b) clock #[] clock)).heap[b']? = w.heap[b']? := fun b' hb' => alloc_old w _ hb'
  have hsz : w.heap.size < (w.alloc (.mapIter (some b) clock #[] clock)).heap.size := by simp
  have hnew : ∀ b', en.b = some b' → w.heap.size ≤ b' ∧ b' < (w.alloc (.mapIter (some b) clock #[] clock)).heap.size := fun b' hb' => by
    cases hb'
    exact ⟨Nat.le_refl _, hsz⟩
  exact ⟨_, _, C.add en, _, _, run_range_map w t kt et b arr clock h1 hh, hk, hI.addNew (Nat.le_of_lt hsz) hold hnew ⟨rfl, w.heap.size, rfl, .inl ⟨.map (some b), b, .mp o b e (get_add _ _ _ _ he) hr hb, rfl, alloc_new w _⟩⟩,
    Ext.addNew hI rfl rfl rfl (Nat.le_of_lt hsz) hold (fun b' hb' => (hnew b' hb').1), .c _ _ (.ptr σ.length 0 w.heap.size en (by simp [Cz.add, ← hI.len]) rfl rfl)⟩

theorem with_it {w : World} {C : Cz} {σ : List AObj} (hI : Inv w C σ) {u : Value} {x : Val} (hx : RepV w C u x) {K : Nat → Nat → Nat → List Nat → Nat → KK → Nat → List (Nat × DV × DV) → Prop} (hk : aWithIt σ x K) :
    ∃ o m since seen c0 kk clock es r e bm arr, u = .pointer (some ⟨r, 0, none⟩) ∧ σ[o]? = some (.it (.mp m) since seen c0) ∧ C.θ[o]? = some e ∧ e.row = false ∧ e.b = some r ∧ w.heap[r]? = some (.mapIter (some bm) since seen.toArray c0) ∧
      RepA w C (.map (some bm)) (.mp m) ∧ σ[m]? = some (.mp kk clock es) ∧ w.heap[bm]? = some (.map arr clock) ∧ arr.size = es.length ∧
      (∀ (i : Nat) me x, arr.toList[i]? = some me → es[i]? = some x → EntOk w C kk me x) ∧ K o m since seen c0 kk clock es := by
  unfold aWithIt at hk
  split at hk
  · rename_i o
    split at hk
    · rename_i m since seen c0 ho
      split at hk
      · rename_i kk clock es hm
        have hx := c_of hx
        cases hx with
        | ptr _ _ b e he hr hb =>
        obtain ⟨g1, b', g2, ⟨u', bm, g3, g4, g5⟩ | ⟨s, g3, _⟩⟩ := hI.ok o _ e ho he
        case inr => cases g3
        rw [hb] at g2; cases g2
        subst g4
        cases g3 with
        | mp _ _ em hem hrm hbm =>
        obtain ⟨q1, b2, arr, q2, q3, q4, q5⟩ := hI.ok m _ em hm hem
        rw [hbm] at q2; cases q2
        exact ⟨o, m, since, seen, c0, kk, clock, es, b, e, bm, arr, rfl, ho, he, hr, hb, g5, .mp m bm em hem hrm hbm, hm, q3, q4, fun i me x h1 h2 => q5 i me x (by simpa using h1) h2, hk⟩
      · exact hk.elim
    · exact hk.elim
  · exact hk.elim

theorem ent_mem {w : World} {C : Cz} {kk : KK} {arr : Array MapEntry} {es : List (Nat × DV × DV)} (hl : arr.size = es.length) (hent : ∀ (i : Nat) me x, arr.toList[i]? = some me → es[i]? = some x → EntOk w C kk me x) {me : MapEntry} (h : me ∈ arr.toList) :
    ∃ x ∈ es, EntOk w C kk me x := by
  obtain ⟨i, hi, he⟩ := List.mem_iff_getElem.1 h
  have hi' : i < es.length := by simp at hi; omega
  exact ⟨es[i], List.getElem_mem _, hent i me _ (by rw [List.getElem?_eq_getElem hi, he]) (List.getElem?_eq_getElem hi')⟩

theorem ok_next {w : World} {C : Cz} {σ : List AObj} (hI : Inv w C σ) {ty : Nat} {u : Value} {x : Val} {isS : Bool} (hx : RepV w C u x) {K : Val → List AObj → Prop} (hk : aNext σ x isS K) : OK1 P (Instr.next u isS ty) w C σ K := by
  unfold aNext at hk
  split at hk
  · split at hk
    · rename_i o
      split at hk
      · rename_i s pos _ _ ho
        have hx := c_of hx
        cases hx with
        | ptr _ _ r e he hr hb =>
        obtain ⟨g1, b', g2, ⟨u', bm, g3, g4, g5⟩ | ⟨s', g3, g5⟩⟩ := hI.ok o _ e ho he
        · subst g4; cases g3 with | d _ _ q => cases q
        cases g3
        rw [hb] at g2; cases g2
        by_cases hp : pos < s.size
        · have hk := hk.1 hp
          have hlt : r < w.heap.size := (Array.getElem?_eq_some_iff.1 g5).1
          have hold2 : ∀ b', b' < w.heap.size → e.b ≠ some b' → (ChangeMaps.setBlock w r (.stringIter s (pos + (Utf8.decode s pos).2))).heap[b']? = w.heap[b']? := fun b' _ hne => by
            show (w.heap.setIfInBounds r _)[b']? = _
            rw [Array.getElem?_setIfInBounds, if_neg (fun e1 => hne (by rw [hb, e1]))]
          obtain ⟨u1, u2⟩ := hI.upd (w' := ChangeMaps.setBlock w r (.stringIter s (pos + (Utf8.decode s pos).2))) (o' := .it (.d (.str s)) (pos + (Utf8.decode s pos).2) [] 0) (e' := e) ho he rfl (by simp [ChangeMaps.setBlock]) (.refl e) hold2 (fun b' hb' => .inl hb')
            (fun hc => ⟨hr, r, hb, .inr ⟨s, rfl, by
              show (w.heap.setIfInBounds r _)[r]? = _
              rw [Array.getElem?_setIfInBounds, if_pos rfl, if_pos hlt]⟩⟩)
          have hX := Ext.upd (w' := ChangeMaps.setBlock w r (.stringIter s (pos + (Utf8.decode s pos).2))) (o' := .it (.d (.str s)) (pos + (Utf8.decode s pos).2) [] 0) hI ho he rfl rfl rfl rfl (by simp [ChangeMaps.setBlock]) u1 hold2 (fun b' hb' => .inl hb')
          exact ⟨_, _, _, _, _, Lib.run_next_any_at w r s pos ty g5 hp, hk, u2, hX, .tup _ _ rfl (fun i v x h1 h2 => by
            match i with
            | 0 => simp at h1 h2; subst h1; subst h2; exact .c _ _ (.d _ _ (.bool _))
            | 1 => simp at h1 h2; subst h1; subst h2; exact .c _ _ (.d _ _ (.int _ _))
            | 2 => simp at h1 h2; subst h1; subst h2; exact .c _ _ (.d _ _ (.int _ _))
            | i + 3 => simp at h1)⟩
        · exact OK1.same hI (Lib.run_next_end_at w r s pos ty g5 hp) (hk.2 hp) (.tup _ _ rfl (fun i v x h1 h2 => by
            match i with
            | 0 => simp at h1 h2; subst h1; subst h2; exact .c _ _ (.d _ _ (.bool _))
            | i + 1 => simp at h1))
      · exact hk.elim
    · exact hk.elim
  have H := with_it hI hx hk
  clear hk
  obtain ⟨o, m, since, seen, c0, kk, clock, es, r, e, bm, arr, rfl, ho, he, hr, hb, hit, hma, hm, hh, hl, hent, ⟨k1, k2⟩, k3, k4⟩ := H
  have hold : ∀ me ∈ arr.toList, me.born < since := fun me hme => by
    obtain ⟨x, hx, q1, _⟩ := ent_mem hl hent hme
    rw [q1]; exact k1 x hx
  rcases run_next_at (P := P) w ty r bm since c0 seen.toArray arr clock hit hh hold k2 with ⟨hz, hrun⟩ | ⟨me, hme, w1, hw1, hrun⟩
  · refine OK1.same hI hrun (k3 fun y hy => ?_) (.tup _ _ rfl (fun i v x h1 h2 => by
      match i with
      | 0 => simp at h1 h2; subst h1; subst h2; exact .c _ _ (.d _ _ (.bool _))
      | i + 1 => simp at h1))
    obtain ⟨i, hi, hy'⟩ := List.mem_iff_getElem.1 hy
    have hi' : i < arr.toList.length := by simp; omega
    obtain ⟨q1, _⟩ := hent i _ y (List.getElem?_eq_getElem hi') (by rw [List.getElem?_eq_getElem hi, hy'])
    have : leftOf arr seen.toArray = #[] := Array.eq_empty_of_size_eq_zero hz
    unfold leftOf at this
    rw [Array.filter_eq_empty_iff] at this
    have := this (arr.toList[i]) (by simp)
    rw [q1] at this
    simpa using this
  · have hme' : me ∈ arr.toList ∧ me.born ∉ seen := by
      unfold leftOf at hme
      simp at hme
      exact ⟨by simpa using hme.1, hme.2⟩
    obtain ⟨y, hy, q1, q2, q3, q4⟩ := ent_mem hl hent hme'.1
    have hheap : w1.heap = w.heap := by rcases hw1 with rfl | rfl <;> rfl
    have hI1 : Inv w1 C σ := hI.heap hheap
    have hX1 : Ext w C σ w1 C σ := by rcases hw1 with rfl | rfl
                                      · exact .refl _ _ _
                                      · exact Ext.heap rfl rfl rfl rfl
    have hit1 : w1.heap[r]? = some (.mapIter (some bm) since seen.toArray c0) := by rw [hheap]; exact hit
    have hlt : r < w1.heap.size := (Array.getElem?_eq_some_iff.1 hit1).1
    have hold2 : ∀ b', b' < w1.heap.size → e.b ≠ some b' → (ChangeMaps.setBlock w1 r (.mapIter (some bm) since (seen.toArray.push me.born) clock)).heap[b']? = w1.heap[b']? := fun b' _ hne => by
      show (w1.heap.setIfInBounds r _)[b']? = _
      rw [Array.getElem?_setIfInBounds, if_neg (fun e1 => hne (by rw [hb, e1]))]
    obtain ⟨u1, u2⟩ := hI1.upd (w' := ChangeMaps.setBlock w1 r (.mapIter (some bm) since (seen.toArray.push me.born) clock)) (o' := .it (.mp m) since (seen ++ [y.1]) clock) (e' := e) ho he rfl (by simp [ChangeMaps.setBlock]) (.refl e) hold2 (fun b' hb' => .inl hb')
      (fun hc => ⟨hr, r, hb, .inl ⟨.map (some bm), bm, (hma.mono hX1.le).mono hc, rfl, by
        show (w1.heap.setIfInBounds r _)[r]? = _
        rw [Array.getElem?_setIfInBounds, if_pos rfl, if_pos hlt, q1]
        simp⟩⟩)
    have hX2 := Ext.upd (w' := ChangeMaps.setBlock w1 r (.mapIter (some bm) since (seen.toArray.push me.born) clock)) (o' := .it (.mp m) since (seen ++ [y.1]) clock) hI1 ho he rfl rfl rfl rfl (by simp [ChangeMaps.setBlock]) u1 hold2 (fun b' hb' => .inl hb')
    have hle := (hX1.trans hX2).le
    refine ⟨_, _, _, _, _, hrun, k4 y hy (by rw [← q1]; exact hme'.2), u2, hX1.trans hX2, .tup _ _ rfl (fun i v x h1 h2 => by
      match i with
      | 0 => simp at h1 h2; subst h1; subst h2; exact .c _ _ (.d _ _ (.bool _))
      | 1 => simp at h1 h2; subst h1; subst h2; exact .c _ _ (.d _ _ (q2.mono hle.rg))
      | 2 => simp at h1 h2; subst h1; subst h2; exact .c _ _ (.d _ _ (q3.mono hle.rg))
      | i + 3 => simp at h1)⟩

theorem ok_entry {w : World} {C : Cz} {σ : List AObj} (hI : Inv w C σ) {u : Value} {x : Val} (hx : RepV w C u x) {K : Val → List AObj → Prop} (hk : aEntry σ x (fun y => K y σ)) : OK1 P (Instr.entry u) w C σ K := by
  unfold aEntry at hk
  have H := with_it hI hx hk
  clear hk
  obtain ⟨o, m, since, seen, c0, kk, clock, es, r, e, bm, arr, rfl, ho, he, hr, hb, hit, hma, hm, hh, hl, hent, y, l, hy, rfl, rfl, hnd, hk⟩ := H
  obtain ⟨i, hi, hy'⟩ := List.mem_iff_getElem.1 hy
  have hi' : i < arr.toList.length := by simp; omega
  obtain ⟨q1, q2, q3, q4⟩ := hent i _ y (List.getElem?_eq_getElem hi') (by rw [List.getElem?_eq_getElem hi, hy'])
  have hborn : arr.toList.map (·.born) = es.map (·.1) := by
    refine List.ext_getElem (by simp [hl]) fun j h1 h2 => ?_
    simp at h1 h2
    obtain ⟨p1, _⟩ := hent j arr.toList[j] es[j] (List.getElem?_eq_getElem (by simp; exact h1)) (List.getElem?_eq_getElem h2)
    simpa using p1
  have hrun := run_entry_at (P := P) w r bm since l.toArray arr clock arr.toList[i] (by rw [hit, q1]; simp) hh (List.getElem_mem _) (by rw [hborn]; exact hnd)
  exact OK1.same hI hrun hk (.tup _ _ rfl (fun i v x h1 h2 => by
    match i with
    | 0 => simp at h1 h2; subst h1; subst h2; exact .c _ _ (.d _ _ q2)
    | 1 => simp at h1 h2; subst h1; subst h2; exact .c _ _ (.d _ _ q3)
    | i + 2 => simp at h1))
end
end Go.Proofs.YtmaokphbfjpodaaGreatDoor.E

/- The engine, behind part M: elements of own rows are read, written; an own row held against nil. No conditions. -/
set_option linter.unusedVariables false
set_option linter.unusedSimpArgs false
namespace Go.Proofs.YtmaokphbfjpodaaGreatDoor.E
open Go

/-- A load; of an own row's element too. -/
def aLoadR (T : Tab) (σ : List AObj) (t : Nat) (x : Val) (K : Val → List AObj → Prop) : Prop :=
  match x with
  | .c (.rowp o m j s off) => match T.ti t with
    | some i => match σ[o]? with
      | some (.row _ sz rows) => bif natEq s sz then ((m = rows.length ∧ j < rows.length) ∧ ∀ row, rows[j]? = some row → aCells i ((row.drop off).map .d) (fun v => K v σ)) else False
      | _ => False
    | none => False
  | x => aLoad T σ t x K
/-- A store; of a whole element of an own row too. -/
def aStoreR (T : Tab) (ρ : Nat) (σ : List AObj) (t : Nat) (x y : Val) (K : List AObj → Prop) : Prop :=
  match x with
  | .c (.rowp o m j s 0) => match T.ti t, y.cells with
    | some i, some ys => frzL ρ σ ys i.nrm (fun ds σ' => match σ'[o]? with
      | some (.row e sz rows) => bif natEq s sz && natEq i.sz sz && natEq ys.length sz then ((m = rows.length ∧ j < rows.length) ∧ K (σ'.set o (.row e sz (rows.set j ds)))) else False
      | _ => False)
    | _, _ => False
  | x => aStore T σ t x y K
/-- An own row against nil. -/
def aNilRow (T : Tab) (σ : List AObj) (t o m : Nat) (y : Val) (X : Prop) : Prop :=
  match T.ti t with
  | some i => match i.k, y with
    | .sl _, .c (.d .nils) => match σ[o]? with
      | some (.row _ _ rows) => (m = rows.length ∧ 0 < rows.length) ∧ X
      | _ => False
    | _, _ => False
  | none => False
def aBinS (T : Tab) (σ : List AObj) (op : BinOp) (t : Nat) (x y : Val) (cst : Bool) (K : Val → Prop) : Prop :=
  match x with
  | .c (.own o m) => match op with
    | .eql => aNilRow T σ t o m y (K (.c (.d (.bool false))))
    | .neq => aNilRow T σ t o m y (K (.c (.d (.bool true))))
    | _ => False
  | x => aBinA T op t x y cst K

theorem splice_get {α : Type} (xs vs : List α) (p k : Nat) (h : p + vs.length ≤ xs.length) : (xs.take p ++ vs ++ xs.drop (p + vs.length))[k]? = if p ≤ k ∧ k < p + vs.length then vs[k - p]? else xs[k]? := by
  by_cases h1 : k < p
  · rw [List.append_assoc, List.getElem?_append_left (by simp; omega), List.getElem?_take, if_pos h1, if_neg (by omega)]
  · by_cases h2 : k < p + vs.length
    · rw [List.append_assoc, List.getElem?_append_right (by simp; omega), List.getElem?_append_left (by simp; omega), if_pos ⟨by omega, h2⟩]
      simp only [List.length_take]
      rw [show min p xs.length = p by omega]
    · rw [List.getElem?_append_right (by simp; omega), List.getElem?_drop, if_neg (by omega)]
      simp only [List.length_append, List.length_take]
      congr 1
      omega

section
variable {P : Program} {T : Tab} (HT : TabOk P T)

/-- Where an own row's element lies. -/
theorem row_at {w : World} {C : Cz} {σ : List AObj} (hI : Inv w C σ) {o m j off e sz : Nat} {rows : List (List DV)} (ho : σ[o]? = some (.row e sz rows)) {u : Value} (hx : RepA w C u (.rowp o m j sz off)) (hm : m = rows.length) (hj : j < rows.length) :
    ∃ g en xs cap cur, u = .pointer (some ⟨g, j * sz + off, none⟩) ∧ C.θ[o]? = some en ∧ en.row = true ∧ en.len = rows.length ∧ en.b = en.val.ownBlock ∧ en.b = some g ∧ 0 < sz ∧ (∀ row, row ∈ rows → row.length = sz) ∧ en.val = .slice (some ⟨g, 0, none⟩) rows.length cap ∧
      w.heap[g]? = some (.cells cur e (0, 0)) ∧ rows.length ≤ cap ∧ cap ≤ maxLen ∧ cur.size = cap * sz ∧ cur.toList.take (rows.length * sz) = xs ∧ xs.length = rows.length * sz ∧
      (∀ (j i : Nat) row x, rows[j]? = some row → row[i]? = some x → ∃ v, xs[j * sz + i]? = some v ∧ RepD w C.rg v x) := by
  cases hx with
  | rowp _ _ _ _ _ en he hr hn b hv =>
  obtain ⟨g1, g2, g3, g4, g5, xs, g6, g7⟩ := hI.ok o _ en ho he
  have hb := hv (by rw [hm, g2])
  rcases g6.2 with ⟨q1, q2⟩ | ⟨g, cap, cur, q1, _, q3, q4, q5, q6, q7⟩
  · omega
  · have : g = b := by rw [g3, q1] at hb; simpa [Value.ownBlock] using hb
    subst this
    exact ⟨g, en, xs, cap, cur, rfl, he, hr, g2, g3, hb, g4, g5, q1, q3, q4, q5, q6, q7, g6.1, g7⟩

include HT in
theorem ok_loadR {w : World} {C : Cz} {σ : List AObj} (hI : Inv w C σ) {t : Nat} {u : Value} {x : Val} (hx : RepV w C u x) {K : Val → List AObj → Prop} (hk : aLoadR T σ t x K) :
    OK1 P (Instr.loadAt t u) w C σ K := by
  unfold aLoadR at hk
  split at hk
  · rename_i o m j s off
    split at hk
    · rename_i i hi
      split at hk
      · rename_i e sz rows ho
        cases hn : natEq s sz with
        | false => rw [hn] at hk; exact hk.elim
        | true =>
        rw [hn] at hk
        have := natEq_eq hn
        subst this
        obtain ⟨⟨hm, hj⟩, hk⟩ := hk
        obtain ⟨g, en, xs, cap, cur, rfl, he, hr, hl, hb0, hb, hs0, hsz, hval, hh, hc1, hc2, hc3, htk, hxl, hrep⟩ := row_at hI ho (c_of hx) hm hj
        refine (ok_cells' HT t i hi hI g (j * s + off) cur e (0, 0) hh (fun k a ha => ?_) (hk _ (List.getElem?_eq_getElem hj))).ok1 hI
        rw [List.getElem?_map, List.getElem?_drop] at ha
        cases hc : rows[j][off + k]? with
        | none => rw [hc] at ha; cases ha
        | some x =>
          rw [hc] at ha; cases ha
          obtain ⟨v, h1, h2⟩ := hrep j (off + k) _ x (List.getElem?_eq_getElem hj) hc
          refine ⟨v, ?_, .d _ _ h2⟩
          rw [← htk, List.getElem?_take] at h1
          split at h1
          · rw [Array.getElem?_toList] at h1; rw [Nat.add_assoc]; exact h1
          · cases h1
      · exact hk.elim
    · exact hk.elim
  · exact ok_load HT hI hx hk

include HT in
theorem ok_storeR {w : World} {C : Cz} {σ : List AObj} (ρ : Nat) (hI : Inv w C σ) {t : Nat} {u v : Value} {x y : Val} (hx : RepV w C u x) (hy : RepV w C v y) {K : List AObj → Prop} (hk : aStoreR T ρ σ t x y K) :
    ∃ w' C' σ', (Instr.storeAt t u v).run P w = .ok () w' ∧ K σ' ∧ Inv w' C' σ' ∧ Ext w C σ w' C' σ' := by
  unfold aStoreR at hk
  split at hk
  · rename_i o m j s
    split at hk
    · rename_i i ys hi hys
      obtain ⟨info, d, z, h1, h2, h3, h4, h6, h7, h8, h9, h10, h11, h12⟩ := ti_parts (HT.ti t i hi)
      have hyr := cells_rep hy hys
      obtain ⟨C1, ds, σ1, hk, l1, I1, E1, n1, r1⟩ := frzL_ok ρ hI hyr hk
      split at hk
      · rename_i e sz rows ho
        cases hn : natEq s sz && natEq i.sz sz && natEq ys.length sz with
        | false => rw [hn] at hk; exact hk.elim
        | true =>
        rw [hn] at hk
        simp only [Bool.and_eq_true] at hn
        have e1 := natEq_eq hn.1.1
        have e2 := natEq_eq hn.1.2
        have e3 := natEq_eq hn.2
        subst e1
        obtain ⟨⟨hm, hj⟩, hk⟩ := hk
        obtain ⟨g, en, xs, cap, cur, rfl, he, hr, hl, hb0, hb, hs0, hsz, hval, hh, hc1, hc2, hc3, htk, hxl, hrep⟩ := row_at I1 ho ((c_of hx).mono l1) hm hj
        have hvl : v.cells.toList.length = s := by have := hyr.1; omega
        have hvs : v.cells.size = i.sz := by simp at hvl; omega
        have hcl : cur.toList.length = cap * s := by simpa using hc3
        have hjs : j * s + s ≤ rows.length * s := by rw [← Nat.succ_mul]; exact Nat.mul_le_mul_right _ hj
        have hrc : rows.length * s ≤ cap * s := Nat.mul_le_mul_right _ hc1
        have hst := run_storeCells_at P g (j * s + 0) e v.cells.toList 0 cur w hh (by simp at hcl hvl ⊢; omega) hyr.oneCell
        simp only [Nat.add_zero] at hst
        have hold : ∀ b', b' < w.heap.size → en.b ≠ some b' → (w.setRow g (cur.toList.take (j * s) ++ v.cells.toList ++ cur.toList.drop (j * s + v.cells.toList.length)).toArray).heap[b']? = w.heap[b']? :=
          fun b' _ hne => setRow_other w g b' _ (fun e1 => hne (by rw [hb, e1]))
        have hsplit : cur.toList = xs ++ cur.toList.drop (rows.length * s) := by rw [← htk, List.take_append_drop]
        obtain ⟨u1, u2⟩ := I1.upd (w' := w.setRow g (cur.toList.take (j * s) ++ v.cells.toList ++ cur.toList.drop (j * s + v.cells.toList.length)).toArray) (o' := .row e s (rows.set j ds)) (e' := en) ho he rfl (by simp [World.setRow]) (.refl en) hold (fun b' hb' => .inl hb')
          (fun hc => ⟨hr, by simpa using hl, hb0, hs0, fun row hrow => by
              rcases List.mem_or_eq_of_mem_set hrow with h | h
              · exact hsz row h
              · rw [h]; omega,
            xs.take (j * s) ++ v.cells.toList ++ xs.drop (j * s + v.cells.toList.length), ⟨by simp; omega, .inr ⟨g, cap, _, by rw [hval]; simp, Nat.zero_le _, setRow_heap w g cur _ e (0, 0) hh, by simpa using hc1, hc2, by simp at hcl hvl ⊢; omega, by
              rw [List.length_set, List.toList_toArray]
              refine List.ext_getElem? fun k => ?_
              rw [List.getElem?_take]
              rw [splice_get cur.toList v.cells.toList (j * s) k (by omega), splice_get xs v.cells.toList (j * s) k (by omega)]
              by_cases hk1 : k < rows.length * s
              · rw [if_pos hk1]
                split
                · rfl
                · rw [← htk, List.getElem?_take, if_pos hk1]
              · rw [if_neg hk1, if_neg (by omega), List.getElem?_eq_none (by omega)]⟩⟩,
            fun j' i' row x hj' hi' => by
              have hli : row.length = s := by
                rcases List.mem_or_eq_of_mem_set (List.mem_of_getElem? hj') with h | h
                · exact hsz row h
                · rw [h]; omega
              have hi2 : i' < s := by rw [← hli]; exact (List.getElem?_eq_some_iff.1 hi').1
              rw [List.getElem?_set] at hj'
              rw [splice_get xs v.cells.toList (j * s) _ (by omega)]
              split at hj'
              · rename_i ejj
                subst ejj
                simp only [hj, if_true, Option.some.injEq] at hj'
                subst hj'
                rw [if_pos (by omega), show j * s + i' - j * s = i' by omega]
                have hi3 : i' < v.cells.toList.length := by omega
                exact ⟨_, List.getElem?_eq_getElem hi3, (r1 i' _ x (List.getElem?_eq_getElem hi3) hi').mono hc.rg⟩
              · rename_i hne
                have hd : ¬ (j * s ≤ j' * s + i' ∧ j' * s + i' < j * s + v.cells.toList.length) := fun ⟨a1, a2⟩ => by
                  rcases Nat.lt_or_ge j' j with h | h
                  · have : j' * s + s ≤ j * s := by rw [← Nat.succ_mul]; exact Nat.mul_le_mul_right _ h
                    omega
                  · have : j * s + s ≤ j' * s := by rw [← Nat.succ_mul]; exact Nat.mul_le_mul_right _ (by omega)
                    omega
                rw [if_neg hd]
                obtain ⟨v', q1, q2⟩ := hrep j' i' row x hj' hi'
                exact ⟨v', q1, q2.mono hc.rg⟩⟩)
        refine ⟨_, _, _, ?_, hk, u2, E1.trans (Ext.upd I1 ho he rfl rfl rfl rfl (by simp [World.setRow]) u1 hold (fun b' hb' => .inl hb'))⟩
        simp [Instr.storeAt, Instr.sureAddr, storeVar, sizeOf, typeInfo, h1, h4, hvs, hst]
      · exact hk.elim
    · exact hk.elim
  · obtain ⟨w', C', σ', q⟩ := ok_store HT hI hx hy hk
    exact ⟨w', C', σ', q⟩

include HT in
theorem nilrow_ok {w : World} {C : Cz} {σ : List AObj} (hI : Inv w C σ) {t o m : Nat} {u v : Value} {y : Val} (hx : RepV w C u (.c (.own o m))) (hy : RepV w C v y) {X : Prop} (hk : aNilRow T σ t o m y X) :
    X ∧ v = .slice none 0 0 ∧ (∃ a n c, u = .slice (some a) n c) ∧ ∀ n, (Op.equalIn (n + 1) t u v).run P w = .ok false w := by
  unfold aNilRow at hk
  split at hk
  · rename_i i hi
    obtain ⟨info, d, z, h1, h2, h3, h4, h6, h7, h8, h9, h10, h11, h12⟩ := ti_parts (HT.ti t i hi)
    split at hk
    · rename_i e hik
      rw [hik] at h3
      have := kind_sl h3
      subst this
      split at hk
      · rename_i e' sz rows ho
        obtain ⟨⟨hm, h0⟩, hX⟩ := hk
        have hd := repA_d (c_of hy)
        cases hd
        have hx := c_of hx
        cases hx with
        | own _ _ en he hr hn A c hval =>
        obtain ⟨g1, g2, g3, g4, g5, xs, g6, g7⟩ := hI.ok o _ en ho he
        have hval := hval (by rw [hm, g2])
        rcases g6.2 with ⟨q1, q2⟩ | ⟨g, cap, cur, q1, _⟩
        · omega
        · rw [q1] at hval
          cases hval
          exact ⟨hX, rfl, ⟨_, _, _, rfl⟩, fun n => eq_sl h2 w n _ _ _⟩
      · exact hk.elim
    · exact hk.elim
  · exact hk.elim

include HT in
theorem ok_binS {w : World} {C : Cz} {σ : List AObj} (hI : Inv w C σ) {op : BinOp} {t : Nat} {X Y : Operand} {u v : Value} {x y : Val} (hx : RepV w C u x) (hy : RepV w C v y) {K : Val → List AObj → Prop}
    (hk : aBinS T σ op t x y (isC X || isC Y) (fun z => K z σ)) : OK1 P (do eqGuard op t X Y u v; binOp op t u v) w C σ K := by
  unfold aBinS at hk
  split at hk
  · rename_i o m
    split at hk
    · obtain ⟨_, rfl, ⟨a, n, c, rfl⟩, heq⟩ := nilrow_ok HT hI hx hy hk
      refine OK1.same hI (v := .bool false) ?_ (nilrow_ok HT hI hx hy hk).1 (.c _ _ (.d _ _ (.bool _)))
      rw [Sem.run_bind, guard_not _ _ _ _ _ _ _ (by simp) (by simp)]
      have hbe : (binOp .eql t (.slice (some a) n c) (.slice none 0 0)) = (do pure (.bool (← Op.equal t (.slice (some a) n c) (.slice none 0 0)))) := rfl
      show ((binOp .eql t (.slice (some a) n c) (.slice none 0 0)).run P w) = _
      rw [hbe, Sem.run_bind]
      show (((Op.equalIn (9999 + 1) t _ _).run P w).andThen _) = _
      rw [heq]; rfl
    · obtain ⟨_, rfl, ⟨a, n, c, rfl⟩, heq⟩ := nilrow_ok HT hI hx hy hk
      refine OK1.same hI (v := .bool true) ?_ (nilrow_ok HT hI hx hy hk).1 (.c _ _ (.d _ _ (.bool _)))
      rw [Sem.run_bind, guard_not _ _ _ _ _ _ _ (by simp) (by simp)]
      have hbe : (binOp .neq t (.slice (some a) n c) (.slice none 0 0)) = (do pure (.bool (!(← Op.equal t (.slice (some a) n c) (.slice none 0 0))))) := rfl
      show ((binOp .neq t (.slice (some a) n c) (.slice none 0 0)).run P w) = _
      rw [hbe, Sem.run_bind]
      show (((Op.equalIn (9999 + 1) t _ _).run P w).andThen _) = _
      rw [heq]; rfl
    · exact hk.elim
  · exact ok_binA HT hI hx hy hk
end
end Go.Proofs.YtmaokphbfjpodaaGreatDoor.E

/- The engine, behind part R: loads from and stores to elements that may have been written over. No conditions. -/
set_option linter.unusedVariables false
set_option linter.unusedSimpArgs false
namespace Go.Proofs.YtmaokphbfjpodaaGreatDoor.E
open Go

/-- An element that has been written over, as it is read; as it is stored. -/
def spoilD (k : Bool) : List DV := if k then [.int .i8 77, .str ⟨#[]⟩, .str ⟨#[]⟩, .int .i64 0, .int .i8 0, .wsl false [], .int .i8 0, .wsl false [], .int .i64 0, .int .i64 0, .wsl true []] else [.int .i8 77, .wsl false []]
def spoilN (k : Bool) : List DV := if k then [.int .i8 77, .str ⟨#[]⟩, .str ⟨#[]⟩, .int .i64 0, .int .i8 0, .nils, .int .i8 0, .nils, .int .i64 0, .int .i64 0, .nils] else [.int .i8 77, .nils]
theorem spoil_rep {w : World} {rg : Nat → Option Nat} {k : Bool} {i : Nat} {v : Value} {x : DV} (hv : (spoilV k)[i]? = some v) (hx : (spoilD k)[i]? = some x) : RepD w rg v x := by
  cases k
  · match i with
    | 0 => cases hv; cases hx; exact .int _ _
    | 1 => cases hv; cases hx; exact .wsl0 _ _ _
    | i + 2 => simp [spoilV] at hv
  · match i with
    | 0 => cases hv; cases hx; exact .int _ _
    | 1 => cases hv; cases hx; exact .str _
    | 2 => cases hv; cases hx; exact .str _
    | 3 => cases hv; cases hx; exact .int _ _
    | 4 => cases hv; cases hx; exact .int _ _
    | 5 => cases hv; cases hx; exact .wsl0 _ _ _
    | 6 => cases hv; cases hx; exact .int _ _
    | 7 => cases hv; cases hx; exact .wsl0 _ _ _
    | 8 => cases hv; cases hx; exact .int _ _
    | 9 => cases hv; cases hx; exact .int _ _
    | 10 => cases hv; cases hx; exact .wsl0 _ _ _
    | i + 11 => simp [spoilV] at hv
theorem spoil_val {w : World} {rg : Nat → Option Nat} {k : Bool} {i : Nat} {v : Value} {x : DV} (hx : (spoilN k)[i]? = some x) (h : RepD w rg v x) : (spoilV k)[i]? = some v := by
  cases k
  · match i with
    | 0 => cases hx; cases h; rfl
    | 1 => cases hx; cases h; rfl
    | i + 2 => simp [spoilN] at hx
  · match i with
    | 0 => cases hx; cases h; rfl
    | 1 => cases hx; cases h; rfl
    | 2 => cases hx; cases h; rfl
    | 3 => cases hx; cases h; rfl
    | 4 => cases hx; cases h; rfl
    | 5 => cases hx; cases h; rfl
    | 6 => cases hx; cases h; rfl
    | 7 => cases hx; cases h; rfl
    | 8 => cases hx; cases h; rfl
    | 9 => cases hx; cases h; rfl
    | 10 => cases hx; cases h; rfl
    | i + 11 => simp [spoilN] at hx
theorem spoilD_len (k : Bool) : (spoilD k).length = wsz k := by cases k <;> rfl
theorem spoilN_len (k : Bool) : (spoilN k).length = wsz k := by cases k <;> rfl
def aLoadW (T : Tab) (σ : List AObj) (t : Nat) (x : Val) (K : Val → List AObj → Prop) : Prop :=
  match x with
  | .c (.d (.wrp k cells)) => match T.ti t with
    | some i => aCells i (cells.map .d) (fun v => K v σ) ∧ aCells i ((spoilD k).map .d) (fun v => K v σ)
    | none => False
  | x => aLoadR T σ t x K
def aStoreW (T : Tab) (ρ : Nat) (σ : List AObj) (t : Nat) (x y : Val) (K : List AObj → Prop) : Prop :=
  match x with
  | .c (.d (.wrp k _)) => match T.ti t with
    | some i => bif natEq i.sz (wsz k) then (y = .agg ((spoilN k).map .d) ∧ K σ) else False
    | none => False
  | x => aStoreR T ρ σ t x y K

/-- An element of a block is written over. -/
theorem Inv.spoil {w w' : World} {C : Cz} {σ : List AObj} (h : Inv w C σ) {k : Bool} {b : Nat} {cs cs' : Array Value} {e : TypeId} (hr : C.rg b = some (wtag k)) (hh : w.heap[b]? = some (.cells cs e (0, 0)))
    (ho : w'.os = w.os) (ht : w'.tape = w.tape) (hu : w'.output = w.output) (hsz : w'.heap.size = w.heap.size) (hold : ∀ b', b' ≠ b → w'.heap[b']? = w.heap[b']?) (hnew : w'.heap[b]? = some (.cells cs' e (0, 0)))
    (hs : ∀ j, (∀ i, i < wsz k → cs'[j * wsz k + i]? = cs[j * wsz k + i]?) ∨ (∀ (i : Nat) v, (spoilV k)[i]? = some v → cs'[j * wsz k + i]? = some v)) : Inv w' C σ ∧ Ext w C σ w' C σ := by
  have hst : SpStep k (w.heap[b]?) (w'.heap[b]?) := ⟨cs, cs', e, hh, hnew, hs⟩
  have hle : CzLe w C w' C := ⟨fun b' r hb => ⟨hb, by
    by_cases e1 : b' = b
    · subst e1
      rw [hr] at hb; cases hb
      cases k
      · exact .inr (.inl ⟨rfl, hst⟩)
      · exact .inr (.inr ⟨rfl, hst⟩)
    · exact .inl (hold b' e1)⟩, fun i e he => ⟨e, he, .refl e⟩⟩
  have hun : ∀ b', C.rg b' = none → w'.heap[b']? = w.heap[b']? := fun b' hb => hold b' (fun e1 => by subst e1; rw [hr] at hb; cases hb)
  refine ⟨⟨h.len, fun i o e' h1 h2 => (h.ok i o e' h1 h2).keep hle (fun hl b' hb => hun b' (h.unrg i o e' b' h1 hl h2 hb).1), fun i o e' b' h1 h2 h3 h4 => by rw [hsz]; exact h.unrg i o e' b' h1 h2 h3 h4, h.apart, fun b' r hb => by rw [hsz]; exact h.rgs b' r hb, h.glb.le hle⟩,
    ho, ht, hu, by omega, hle, fun b' hb hn hw => hold b' (fun e1 => ?_), fun _ h => .inl h, fun _ _ h => .inl h⟩
  subst e1
  have := hw _ hr
  cases k <;> cases this

section
variable {P : Program} {T : Tab} (HT : TabOk P T)
include HT in
theorem ok_loadW {w : World} {C : Cz} {σ : List AObj} (hI : Inv w C σ) {t : Nat} {u : Value} {x : Val} (hx : RepV w C u x) {K : Val → List AObj → Prop} (hk : aLoadW T σ t x K) :
    OK1 P (Instr.loadAt t u) w C σ K := by
  unfold aLoadW at hk
  split at hk
  · rename_i k cells
    split at hk
    · rename_i i hi
      obtain ⟨hk1, hk2⟩ := hk
      have hd := repA_d (c_of hx)
      cases hd with
      | wrp _ b j _ cs e told vs hr hh hl hcell hsp hrep =>
      cases told with
      | true =>
        refine (ok_cells' HT t i hi hI b (j * wsz k) cs e (0, 0) hh (fun a y ha => ?_) hk1).ok1 hI
        rw [List.getElem?_map] at ha
        cases hc : cells[a]? with
        | none => rw [hc] at ha; cases ha
        | some x =>
          rw [hc] at ha; cases ha
          have := (List.getElem?_eq_some_iff.1 hc).1
          exact ⟨vs a, hcell a (by omega), .d _ _ (hrep a x rfl hc)⟩
      | false =>
        refine (ok_cells' HT t i hi hI b (j * wsz k) cs e (0, 0) hh (fun a y ha => ?_) hk2).ok1 hI
        rw [List.getElem?_map] at ha
        cases hc : (spoilD k)[a]? with
        | none => rw [hc] at ha; cases ha
        | some x =>
          rw [hc] at ha; cases ha
          have h1 := (List.getElem?_eq_some_iff.1 hc).1
          rw [spoilD_len] at h1
          obtain ⟨v, hv⟩ := spoil_get (k := k) h1
          refine ⟨vs a, hcell a h1, .d _ _ ?_⟩
          rw [hsp a v rfl hv]
          exact spoil_rep hv hc
    · exact hk.elim
  · exact ok_loadR HT hI hx hk

include HT in
theorem ok_storeW {w : World} {C : Cz} {σ : List AObj} (ρ : Nat) (hI : Inv w C σ) {t : Nat} {u v : Value} {x y : Val} (hx : RepV w C u x) (hy : RepV w C v y) {K : List AObj → Prop} (hk : aStoreW T ρ σ t x y K) :
    ∃ w' C' σ', (Instr.storeAt t u v).run P w = .ok () w' ∧ K σ' ∧ Inv w' C' σ' ∧ Ext w C σ w' C' σ' := by
  unfold aStoreW at hk
  split at hk
  · rename_i k cells
    split at hk
    · rename_i i hi
      obtain ⟨hn, hyy, hk2⟩ := bif_and hk
      subst hyy
      have hsz := natEq_eq hn
      obtain ⟨info, d, z, h1, h2, h3, h4, h6, h7, h8, h9, h10, h11, h12⟩ := ti_parts (HT.ti t i hi)
      have hd := repA_d (c_of hx)
      cases hd with
      | wrp _ b j _ cs e told vs hr hh hl hcell hsp hrep =>
      have hyr := cells_rep hy (cs := (spoilN k).map .d) rfl
      have hvl : v.cells.toList.length = wsz k := by have := hyr.1; rw [List.length_map, spoilN_len] at this; exact this
      have hvs : v.cells.size = i.sz := by simp at hvl; omega
      have hval : ∀ (i : Nat) x, (spoilV k)[i]? = some x → v.cells.toList[i]? = some x := fun i x hi => by
        have h5 := spoil_lt hi
        have h6 : v.cells.toList[i]? = some (v.cells.toList[i]'(by omega)) := List.getElem?_eq_getElem _
        have h7 : ((spoilN k).map AV.d)[i]? = some (.d ((spoilN k)[i]'(by rw [spoilN_len]; exact h5))) := by rw [List.getElem?_map, List.getElem?_eq_getElem (by rw [spoilN_len]; exact h5)]; rfl
        have h8 := spoil_val (List.getElem?_eq_getElem (by rw [spoilN_len]; exact h5)) (repA_d (hyr.2 i _ _ h6 h7))
        rw [hi] at h8; cases h8
        exact h6
      have hend : j * wsz k + wsz k ≤ cs.toList.length := by
        have h5 : 0 < wsz k := by cases k <;> decide
        have := hcell (wsz k - 1) (by omega)
        have := (Array.getElem?_eq_some_iff.1 this).1
        simp; omega
      have hst := run_storeCells_at P b (j * wsz k + 0) e v.cells.toList 0 cs w hh (by simp at hvl hend ⊢; omega) (by exact hyr.oneCell)
      simp only [Nat.add_zero] at hst
      have hcs : ∀ m, (cs.toList.take (j * wsz k) ++ v.cells.toList ++ cs.toList.drop (j * wsz k + v.cells.toList.length))[m]? = if j * wsz k ≤ m ∧ m < j * wsz k + v.cells.toList.length then v.cells.toList[m - j * wsz k]? else cs.toList[m]? := fun m =>
        splice_get cs.toList v.cells.toList (j * wsz k) m (by omega)
      obtain ⟨u1, u2⟩ := hI.spoil (w' := w.setRow b (cs.toList.take (j * wsz k) ++ v.cells.toList ++ cs.toList.drop (j * wsz k + v.cells.toList.length)).toArray) hr hh rfl rfl rfl (by simp [World.setRow]) (fun b' hb => setRow_other w b b' _ hb) (setRow_heap w b cs _ e (0, 0) hh) (fun j' => by
        by_cases e1 : j' = j
        · subst e1
          refine .inr fun i x hi => ?_
          have h5 := spoil_lt hi
          rw [List.getElem?_toArray, hcs, if_pos (by omega), show j' * wsz k + i - j' * wsz k = i by omega]
          exact hval i x hi
        · refine .inl fun i hi => ?_
          rw [List.getElem?_toArray, hcs, if_neg, Array.getElem?_toList]
          rintro ⟨a1, a2⟩
          rcases Nat.lt_or_ge j' j with h | h
          · have : j' * wsz k + wsz k ≤ j * wsz k := by rw [← Nat.succ_mul]; exact Nat.mul_le_mul_right _ h
            omega
          · have : j * wsz k + wsz k ≤ j' * wsz k := by rw [← Nat.succ_mul]; exact Nat.mul_le_mul_right _ (by omega)
            omega)
      refine ⟨_, _, _, ?_, hk2, u1, u2⟩
      simp [Instr.storeAt, Instr.sureAddr, storeVar, sizeOf, typeInfo, h1, h4, hvs, hst]
    · exact hk.elim
  · exact ok_storeR HT ρ hI hx hy hk
end
end Go.Proofs.YtmaokphbfjpodaaGreatDoor.E

/- The engine, part B: a row of bytes, a number as a string; a string's bytes behind a row of bytes. No conditions. -/
set_option linter.unusedVariables false
set_option linter.unusedSimpArgs false
namespace Go.Proofs.YtmaokphbfjpodaaGreatDoor.E
open Go

/-- Bytes as rows of one cell. -/
def u8rows (l : List UInt8) : List (List DV) := l.map fun b => [.int .u8 b.toNat]
theorem u8rows_len (l : List UInt8) : (u8rows l).length = l.length := by simp [u8rows]
theorem u8rows_get {l : List UInt8} {i : Nat} {row : List DV} (h : (u8rows l)[i]? = some row) : ∃ b, l[i]? = some b ∧ row = [.int .u8 b.toNat] := by
  simp only [u8rows, List.getElem?_map, Option.map_eq_some_iff] at h
  obtain ⟨b, h1, h2⟩ := h
  exact ⟨b, h1, h2.symm⟩
theorem u8rows_row {l : List UInt8} {row : List DV} (h : row ∈ u8rows l) : row.length = 1 := by
  obtain ⟨b, _, rfl⟩ := List.mem_map.1 h
  rfl

def aConvB (T : Tab) (ρ : Nat) (σ : List AObj) (src dst : Nat) (x : Val) (K : Val → List AObj → Prop) : Prop :=
  match T.ti src, T.ti dst with
  | some i, some j => match i.k, j.k with
    | .sl e, .str => match T.ti e with
      | some l => match l.k with
        | .int k => bif ikEq k .u8 then srcRows σ 1 x (fun rows => ∃ bs : List UInt8, rows = u8rows bs ∧ K (.c (.d (.str ⟨bs.toArray⟩))) σ) else False
        | _ => False
      | none => False
    | .int _, .str => match x with
      | .c (.d (.int _ n)) => K (.c (.d (.str (Utf8.encode n)))) σ
      | _ => False
    | _, _ => aConv T ρ σ src dst x K
  | _, _ => False

def zu8 : List DV → Bool
  | [.int k n] => ikEq k .u8 && n == 0
  | _ => false
/-- A string's bytes behind an own row. -/
def aAppendS (T : Tab) (σ : List AObj) (t t' : Nat) (s x : Val) (K : Val → List AObj → Prop) : Prop :=
  match T.ti t, T.ti t' with
  | some i, some j => match i.k, j.k with
    | .sl e, .str => match T.ti e with
      | some l => match l.k, s, x with
        | .int k, .c (.own o n), .c (.d (.str b)) => match σ[o]? with
          | some (.row e' sz rows) => bif ikEq k .u8 && natEq e' e && natEq sz 1 && natEq l.sz 1 && natEq l.bytes 1 && zu8 l.zero then ((n = rows.length ∧ 0 < b.size ∧ bnd (rows.length + b.size) 1) ∧ K (.c (.own o (rows.length + b.size))) (σ.set o (.row e 1 (rows ++ u8rows b.data.toList)))) else False
          | _ => False
        | _, _, _ => False
      | none => False
    | _, _ => False
  | _, _ => False

section
variable {P : Program} {T : Tab} (HT : TabOk P T)

theorem zu8_ok {l : List DV} {ze : Value} (h : zu8 l = true) (h9 : allZ l ze.cells.toList = true) (hn : ¬ ∃ arr, ze = .agg arr) : ze = .int .u8 0 := by
  unfold zu8 at h
  split at h
  · rename_i k n
    simp only [Bool.and_eq_true, beq_iff_eq] at h
    obtain ⟨h1, rfl⟩ := h
    obtain rfl := ikEq_eq h1
    have hone : ze.cells = #[ze] := by
      cases ze with
      | agg arr => exact absurd ⟨arr, rfl⟩ hn
      | _ => rfl
    rw [hone] at h9
    simp only [allZ, Bool.and_eq_true, and_true] at h9
    cases ze <;> simp [isZ] at h9
    obtain ⟨rfl, rfl⟩ := h9
    rfl
  · cases h
theorem run_convert_src (w : World) (src e dst : TypeId) (hs : P.underlying src = some (.slice e)) (he : P.underlying e = some (.int .u8)) (hd : P.underlying dst = some .string) (a : Addr) (len cap : Nat) (bs : List UInt8) (hlen : bs.length = len)
    (hcell : ∀ (j : Nat) b, bs[j]? = some b → w.cell? (a.add j) = some (.int .u8 b.toNat)) : (convert src dst (.slice (some a) len cap)).run P w = .ok (.string ⟨bs.toArray⟩) w := by
  have hl : (loadCells a len).run P w = .ok ((bs.map fun b => (b.toNat : Int)).map (Value.int .u8)).toArray w := by
    have := run_loadCells_list (P := P) w a ((bs.map fun b => (b.toNat : Int)).map (Value.int .u8)) (fun j v hj => by
      simp only [List.getElem?_map, Option.map_eq_some_iff] at hj
      obtain ⟨n, ⟨b, h1, rfl⟩, rfl⟩ := hj
      exact hcell j b h1)
    simpa [hlen] using this
  rw [run_convert_bytes_string w src dst e _ len cap hs he hd, run_bytesToString w _ len cap _ hl, foldl_push_bytes]
  have e : (bs.map fun b => (b.toNat : Int)).map (fun n => UInt8.ofNat n.toNat) = bs := by
    rw [List.map_map]
    exact (List.map_congr_left fun b _ => by simp).trans (List.map_id bs)
  rw [e]
  simp [ByteArray.empty, ByteArray.emptyWithCapacity]
  rfl

include HT in
theorem ok_convB {w : World} {C : Cz} {σ : List AObj} (ρ : Nat) (hI : Inv w C σ) {src dst : Nat} {u : Value} {x : Val} (hx : RepV w C u x) {K : Val → List AObj → Prop} (hk : aConvB T ρ σ src dst x K) :
    OK1 P (convert src dst u) w C σ K := by
  have hk0 := hk
  unfold aConvB at hk
  split at hk
  · rename_i i j hi hj
    obtain ⟨_, d, _, h1, h2, h3, _⟩ := ti_parts (HT.ti src i hi)
    obtain ⟨_, d2, _, g1, g2, g3, _⟩ := ti_parts (HT.ti dst j hj)
    split at hk
    · rename_i e hik hjk
      rw [hik] at h3
      rw [hjk] at g3
      obtain rfl := kind_sl h3
      obtain rfl := kind_str g3
      split at hk
      · rename_i l hl
        obtain ⟨_, d3, _, k1, k2, k3, _⟩ := ti_parts (HT.ti e l hl)
        split at hk
        · rename_i k hlk
          rw [hlk] at k3
          cases hg : ikEq k .u8 with
          | false => rw [hg] at hk; exact hk.elim
          | true =>
          rw [hg] at hk
          have := ikEq_eq hg
          subst this
          obtain rfl := kind_int k3
          obtain ⟨rows, ⟨bs, rfl, hK⟩, hS⟩ := srcRows_ok hI hx (by decide) hk
          rcases hS with ⟨hz, A, c, rfl⟩ | ⟨hne, a, m, c, vals, rfl, hS⟩
          · obtain rfl : bs = [] := by cases bs with | nil => rfl | cons => simp [u8rows] at hz
            refine OK1.same hI (v := .string ByteArray.empty) ?_ hK (.c _ _ (.d _ _ (.str _)))
            rw [run_convert_bytes_string w src dst e _ 0 c h2 k2 g2]
            cases A <;> simp [Conv.bytesToString, loadCells] <;> rfl
          · refine OK1.same hI (v := .string ⟨bs.toArray⟩) (run_convert_src (P := P) w src e dst h2 k2 g2 a m c bs ?_ fun j b hb => ?_) hK (.c _ _ (.d _ _ (.str _)))
            · rw [hS.mlen, u8rows_len]
            · obtain ⟨v, hv, hr⟩ := hS.rep j 0 [.int .u8 b.toNat] _ (by simp [u8rows, hb]) rfl
              simp only [Nat.mul_one, Nat.add_zero] at hv
              cases hr
              exact hS.at_ j _ hv
        · exact hk.elim
      · exact hk.elim
    · rename_i k hik hjk
      rw [hjk] at g3
      obtain rfl := kind_str g3
      split at hk
      · rename_i k2 n
        have := int_of hx
        subst this
        exact OK1.same hI (v := .string (Utf8.encode n)) (run_convert_int_string w src dst k2 n (by rw [h2]; rfl) g2) hk (.c _ _ (.d _ _ (.str _)))
      · exact hk.elim
    · exact ok_conv HT ρ hI hx hk
  · exact hk.elim

include HT in
theorem ok_appendS {w : World} {C : Cz} {σ : List AObj} (hI : Inv w C σ) {t t' ty : Nat} {u v : Value} {s x : Val} (hs : RepV w C u s) (hx : RepV w C v x) {K : Val → List AObj → Prop} (hk : aAppendS T σ t t' s x K) :
    OK1 P (Builtin.append_ #[t, t'] ty #[u, v]) w C σ K := by
  unfold aAppendS at hk
  split at hk
  · rename_i i j hi hj
    obtain ⟨_, d, _, h1, h2, h3, _⟩ := ti_parts (HT.ti t i hi)
    obtain ⟨_, d2, _, g1, g2, g3, _⟩ := ti_parts (HT.ti t' j hj)
    split at hk
    · rename_i e hik hjk
      rw [hik] at h3
      rw [hjk] at g3
      obtain rfl := kind_sl h3
      obtain rfl := kind_str g3
      split at hk
      · rename_i l hl
        obtain ⟨ie, d3, ze, k1, k2, k3, k4, k6, k7, k8, k9, k10, k11, k12⟩ := ti_parts (HT.ti e l hl)
        split at hk
        · rename_i k o n b hlk
          rw [hlk] at k3
          split at hk
          · rename_i e' sz rows ho
            cases hg : ikEq k .u8 && natEq e' e && natEq sz 1 && natEq l.sz 1 && natEq l.bytes 1 && zu8 l.zero with
            | false => rw [hg] at hk; exact hk.elim
            | true =>
            rw [hg] at hk
            simp only [Bool.and_eq_true] at hg
            obtain ⟨⟨⟨⟨⟨q1, q2⟩, q3⟩, q4⟩, q5⟩, q6⟩ := hg
            have := ikEq_eq q1
            subst this
            have := natEq_eq q2
            subst this
            have := natEq_eq q3
            subst this
            obtain rfl := kind_int k3
            obtain ⟨⟨hn, hpos, hb1, hb2⟩, hK⟩ := hk
            have := str_of hx
            subst this
            obtain ⟨en, A, c, he, hr, hle, rfl, hval⟩ := own_inv (c_of hs)
            obtain ⟨f1, f2, f3, f4, f5, xs, f6, f7⟩ := hI.ok o _ en ho he
            have hval := hval (by rw [f2]; exact hn)
            rw [hval]
            have hzero : ie.zero = some (.int .u8 0) := by rw [k8, zu8_ok q6 k9 (by simp [TI.agg, hlk] at k12; rintro ⟨arr, h⟩; exact k12 arr h)]
            have hsz1 : ie.size = 1 := by rw [k4]; exact natEq_eq q4
            have hby1 : ie.bytes = 1 := by rw [k6]; exact natEq_eq q5
            have hml : rows.length + b.size ≤ maxLen := by simp only [maxLen]; omega
            obtain ⟨v', w', r1, r2, r3, r4⟩ := Lib.run_append_own_string (P := P) w 0 t t' ty e' ie h2 g2 k1 hzero hsz1 hby1 en.val rows.length xs f6 b hml (by omega) (Nat.zero_le _)
            have hblk : ∃ A' c', v' = .slice A' (rows.length + b.size) c' ∧ ∀ q, v'.ownBlock = some q → en.val.ownBlock = some q ∨ (w.heap.size ≤ q ∧ q < w'.heap.size) := by
              rcases r2.2 with ⟨_, hz⟩ | ⟨g, cap, cur, e1, _, e3, _⟩
              · omega
              · have hglt : g < w'.heap.size := (Array.getElem?_eq_some_iff.1 e3).1
                refine ⟨_, _, e1, fun q hq => ?_⟩
                rw [e1] at hq
                simp only [Value.ownBlock, Option.some.injEq] at hq
                subst hq
                rcases Nat.lt_or_ge g w.heap.size with hlt | hge
                · left
                  rcases f6.2 with ⟨e5, hz⟩ | ⟨g', cap', cur', e5, _, e7, e8, _, e10, _⟩
                  · exfalso
                    rw [e5] at r1
                    have hr := run_append_nil_string (P := P) w t t' ty e' ie (.int .u8 0) h2 g2 k1 hzero b (by omega) (by omega) (by rw [hby1]; omega)
                    rw [hr] at r1
                    cases r1
                    simp at e1
                    omega
                  · rw [e5] at r1 ⊢
                    by_cases hroom : rows.length + b.size ≤ cap'
                    · have hr := Lib.run_append_room_string (P := P) w t t' ty e' ie h2 g2 k1 hsz1 g' rows.length cap' cur' e7 b hroom (by omega)
                      rw [hr] at r1
                      cases r1
                      simp at e1
                      simp [Value.ownBlock, e1.1]
                    · exfalso
                      have hr := Lib.run_append_grow_string (P := P) w t t' ty e' ie (.int .u8 0) h2 g2 k1 hzero ⟨g', 0, none⟩ rows.length cap' xs (by rw [hsz1]; simpa using f6.1) (f6.cells (g := g') (by rw [e5]; rfl)) b (by omega) (by simp only [maxLen] at hml; omega) (by rw [hby1]; exact growslice_fits (by omega) (by omega))
                      rw [hr] at r1
                      cases r1
                      simp at e1
                      omega
                · exact .inr ⟨hge, hglt⟩
            obtain ⟨A', c', hv', hnew⟩ := hblk
            let e2 : Ent := ⟨true, v'.ownBlock, rows.length + b.size, v'⟩
            have hold : ∀ q, q < w.heap.size → en.b ≠ some q → w'.heap[q]? = w.heap[q]? := fun q hq hne => r3.block q hq (fun e => hne (by rw [f3]; exact e.symm))
            have hnew2 : ∀ q, e2.b = some q → en.b = some q ∨ (w.heap.size ≤ q ∧ q < w'.heap.size) := fun q hq => by rw [f3]; exact hnew q hq
            obtain ⟨v1, v2⟩ := hI.upd (o' := .row e' 1 (rows ++ u8rows b.data.toList)) (e' := e2) ho he rfl r3.size (.inr ⟨hr, rfl, by show en.len < _; rw [f2]; show rows.length < rows.length + b.size; omega⟩) hold hnew2 (fun hc => by
              have hbl : b.data.toList.length = b.size := by simp
              refine ⟨rfl, by simp [e2, u8rows_len], rfl, Nat.one_pos, fun row hrow => ?_, xs ++ Lib.strCells b, ?_, fun a i row y ha hi => ?_⟩
              · rcases List.mem_append.1 hrow with h | h
                · exact f5 row h
                · exact u8rows_row h
              · rw [List.length_append, u8rows_len, hbl]; exact r2
              · obtain ⟨v, hv, hrv⟩ := rows_app (rg := C.rg) f6.1 f7 f5 (vals := Lib.strCells b) (news := u8rows b.data.toList) (fun a i row y ha hi => by
                  obtain ⟨z, hz, rfl⟩ := u8rows_get ha
                  have hi0 : i = 0 := by
                    cases i with
                    | zero => rfl
                    | succ i => simp at hi
                  subst hi0
                  simp at hi
                  subst hi
                  exact ⟨.int .u8 z.toNat, by simp only [Lib.strCells, List.getElem?_map, Nat.mul_one, Nat.add_zero, hz]; rfl, .int _ _⟩) a i row y ha hi
                exact ⟨v, hv, hrv.mono hc.rg⟩)
            refine ⟨v', w', _, _, _, r1, hK, v2, Ext.upd hI ho he rfl r3.os r3.tape r3.output r3.size v1 hold (fun q hq => (hnew2 q hq).imp id And.left), ?_⟩
            rw [hv']
            exact .c _ _ (.own o _ e2 (by simp [Cz.upd, List.getElem?_set, (List.getElem?_eq_some_iff.1 he).1]) rfl (Nat.le_refl _) A' c' (fun _ => hv'.symm))
          · exact hk.elim
        · exact hk.elim
      · exact hk.elim
    · exact hk.elim
  · exact hk.elim
end
end Go.Proofs.YtmaokphbfjpodaaGreatDoor.E

/- The engine, part 14: an operation, a region, on data. No conditions. -/
set_option linter.unusedVariables false
set_option linter.unusedSimpArgs false
namespace Go.Proofs.YtmaokphbfjpodaaGreatDoor.E
open Go

/-! ### Arguments -/
def aArgs (ρ : Nat) : List Val → List PM → List AObj → (List Val → List AObj → Prop) → Prop
  | [], _, σ, K => K [] σ
  | x :: xs, [], σ, K => aArgs ρ xs [] σ (fun ys σ' => K (x :: ys) σ')
  | x :: xs, .ref :: ps, σ, K => aArgs ρ xs ps σ (fun ys σ' => K (x :: ys) σ')
  | x :: xs, .fz n :: ps, σ, K => match x with
    | .c a => frz1 ρ σ a n.head?.join (fun d σ' => aArgs ρ xs ps σ' (fun ys σ'' => K (.c (.d d) :: ys) σ''))
    | .agg cs => frzL ρ σ cs n (fun ds σ' => aArgs ρ xs ps σ' (fun ys σ'' => K (.agg (ds.map .d) :: ys) σ''))
    | _ => False

theorem RepVs.cons {w : World} {C : Cz} {v : Value} {x : Val} {vs : List Value} {xs : List Val} (h : RepV w C v x) (hs : RepVs w C vs xs) : RepVs w C (v :: vs) (x :: xs) :=
  ⟨by simp [hs.1], fun i u y h1 h2 => by
    cases i with
    | zero => simp at h1 h2; subst h1; subst h2; exact h
    | succ i => exact hs.2 i u y (by simpa using h1) (by simpa using h2)⟩
theorem RepVs.mono {w w' : World} {C C' : Cz} (H : CzLe w C w' C') {vs : List Value} {xs : List Val} (h : RepVs w C vs xs) : RepVs w' C' vs xs := ⟨h.1, fun i v x h1 h2 => (h.2 i v x h1 h2).mono H⟩
theorem RepVs.tail {w : World} {C : Cz} {v : Value} {x : Val} {vs : List Value} {xs : List Val} (h : RepVs w C (v :: vs) (x :: xs)) : RepV w C v x ∧ RepVs w C vs xs :=
  ⟨h.2 0 v x rfl rfl, by have := h.1; simpa using this, fun i u y h1 h2 => h.2 (i + 1) u y (by simpa using h1) (by simpa using h2)⟩

theorem aArgs_ok {w : World} (ρ : Nat) : ∀ {xs : List Val} {ps : List PM} {C : Cz} {σ : List AObj} (hI : Inv w C σ) {vs : List Value} (hv : RepVs w C vs xs) {K : List Val → List AObj → Prop} (hk : aArgs ρ xs ps σ K),
    ∃ C' ys σ', K ys σ' ∧ CzLe w C w C' ∧ Inv w C' σ' ∧ Ext w C σ w C' σ' ∧ RepVs w C' vs ys
  | [], ps, C, σ, hI, vs, hv, K, hk => ⟨C, [], σ, by cases ps <;> exact hk, .refl w C, hI, .refl w C σ, hv⟩
  | x :: xs, ps, C, σ, hI, [], hv, K, hk => by have := hv.1; simp at this
  | x :: xs, [], C, σ, hI, v :: vs, hv, K, hk => by
    obtain ⟨h0, h1⟩ := hv.tail
    obtain ⟨C', ys, σ', k1, k2, k3, k4, k5⟩ := aArgs_ok ρ hI h1 hk
    exact ⟨C', _, σ', k1, k2, k3, k4, .cons (h0.mono k2) k5⟩
  | x :: xs, .ref :: ps, C, σ, hI, v :: vs, hv, K, hk => by
    obtain ⟨h0, h1⟩ := hv.tail
    obtain ⟨C', ys, σ', k1, k2, k3, k4, k5⟩ := aArgs_ok ρ hI h1 hk
    exact ⟨C', _, σ', k1, k2, k3, k4, .cons (h0.mono k2) k5⟩
  | x :: xs, .fz n :: ps, C, σ, hI, v :: vs, hv, K, hk => by
    obtain ⟨h0, h1⟩ := hv.tail
    simp only [aArgs] at hk
    split at hk
    · obtain ⟨C1, d, σ1, k1, l1, I1, E1, r1⟩ := frz1_ok hI ρ (c_of h0) hk
      obtain ⟨C2, ys, σ2, k2, l2, I2, E2, r2⟩ := aArgs_ok ρ I1 (h1.mono l1) k1
      exact ⟨C2, _, σ2, k2, l1.trans l2, I2, E1.trans E2, .cons (.c _ _ (.d _ _ (r1.mono l2.rg))) r2⟩
    · cases h0 with
      | agg arr cs hr =>
      obtain ⟨C1, ds, σ1, k1, l1, I1, E1, n1, r1⟩ := frzL_ok ρ hI hr hk
      obtain ⟨C2, ys, σ2, k2, l2, I2, E2, r2⟩ := aArgs_ok ρ I1 (h1.mono l1) k1
      exact ⟨C2, _, σ2, k2, l1.trans l2, I2, E1.trans E2, .cons (.agg _ _ (RepL.ofD n1 (fun i u y h1 h2 => (r1 i u y h1 h2).mono l2.rg))) r2⟩
    · exact hk.elim

/-! ### Calls -/
def memB : List Nat → Nat → Bool
  | [], _ => false
  | j :: l, i => Nat.beq j i || memB l i
def addNew (L : List Nat) : List Nat → List Nat
  | [] => L
  | i :: r => addNew (bif memB L i then L else L ++ [i]) r
def idsOf (σ : List AObj) : List Nat → List Nat
  | [] => []
  | i :: r => (obj σ i).ids ++ idsOf σ r
/-! ### Forcing: what is pushed into a state is brought to its form first. -/
def forceN (n : Nat) (K : Nat → Prop) : Prop :=
  match n with
  | 0 => K 0
  | 1 => K 1
  | 2 => K 2
  | 3 => K 3
  | 4 => K 4
  | 5 => K 5
  | 6 => K 6
  | 7 => K 7
  | 8 => K 8
  | n => K n
theorem forceN_eq (n : Nat) (K : Nat → Prop) : forceN n K = K n := by unfold forceN; split <;> rfl
def forceNs : List Nat → (List Nat → Prop) → Prop
  | [], K => K []
  | n :: l, K => forceN n (fun n => forceNs l (fun l => K (n :: l)))
theorem forceNs_eq : ∀ (l : List Nat) (K : List Nat → Prop), forceNs l K = K l
  | [], _ => rfl
  | n :: l, K => by simp only [forceNs, forceN_eq, forceNs_eq]
/-- What is reached, step by step in its form. -/
def reachK (σ : List AObj) : Nat → List Nat → (List Nat → Prop) → Prop
  | 0, L, K => K L
  | k + 1, L, K => forceNs (addNew L (idsOf σ L)) (fun L' => bif Nat.beq L'.length L.length then K L' else reachK σ k L' K)
theorem reachK_ex (σ : List AObj) {K : List Nat → Prop} : ∀ (k : Nat) (L : List Nat), reachK σ k L K → ∃ L', K L'
  | 0, L, h => ⟨L, h⟩
  | k + 1, L, h => by
    simp only [reachK, forceNs_eq] at h
    cases hb : Nat.beq (addNew L (idsOf σ L)).length L.length with
    | true => rw [hb] at h; exact ⟨_, h⟩
    | false => rw [hb] at h; exact reachK_ex σ k _ h

def aCall1 (P : Program) (f : FuncId) (ys : List Val) (σ : List AObj) (L : List Nat) (K : Val → List AObj → Prop) (KP : AV → List AObj → Prop) : Prop :=
  bif nodupB L && closedB σ L L && subB L (Val.idsL ys) then
    ACall P f (Val.renL (idx L) ys) (sub σ L L) (fun o σc => match o with
      | .ret v => K (v.ren (un L σ.length)) (back L σ.length σc 0 σ)
      | .pan a => KP (a.ren (un L σ.length)) (back L σ.length σc 0 σ))
  else False

def aCall0 (P : Program) (f : FuncId) (ys : List Val) (σ : List AObj) (K : Val → List AObj → Prop) (KP : AV → List AObj → Prop) : Prop :=
  match Val.idsL ys with
  | [] => ACall P f ys [] (fun o σc => match σc with
    | [] => (match o with | .ret v => K v σ | .pan a => KP a σ)
    | s :: r => (match o with
      | .ret v => K (v.ren (un [] σ.length)) (back [] σ.length (s :: r) 0 σ)
      | .pan a => KP (a.ren (un [] σ.length)) (back [] σ.length (s :: r) 0 σ)))
  | i :: is => forceNs (addNew [] (i :: is)) (fun L0 => reachK σ σ.length L0 (fun L => aCall1 P f ys σ L K KP))

def aCallF (P : Program) (T : Tab) (ρ : Nat) (f : FuncId) (args : List Val) (σ : List AObj) (K : Val → List AObj → Prop) (KP : AV → List AObj → Prop) : Prop :=
  bif T.fok f then aArgs ρ args (T.prm f) σ (fun ys σ1 => aCall0 P f ys σ1 K KP) else False

def outK (K : Val → List AObj → Prop) (KP : AV → List AObj → Prop) : Out → List AObj → Prop
  | .ret v, σ => K v σ
  | .pan a, σ => KP a σ

theorem aCall0_ok {P : Program} {w : World} {C : Cz} {σ : List AObj} (hI : Inv w C σ) {f : FuncId} {ys : List Val} {vs : Array Value} (hv : RepVs w C vs.toList ys) {K : Val → List AObj → Prop} {KP : AV → List AObj → Prop} (hk : aCall0 P f ys σ K KP) :
    Calls P f vs w fun e w' => ∃ o σ' C', outK K KP o σ' ∧ Inv w' C' σ' ∧ Ext w C σ w' C' σ' ∧ OutOk w' C' e o := by
  unfold aCall0 at hk
  split at hk
  · rename_i h0
    exact call_pure hI hv h0 (K := outK K KP) (hk.mono fun o σc h => by
      cases σc with
      | nil => cases o <;> exact h
      | cons _ _ => cases o <;> exact h)
  · rw [forceNs_eq] at hk
    obtain ⟨L, hk⟩ := reachK_ex σ _ _ hk
    unfold aCall1 at hk
    cases hc : nodupB L && closedB σ L L && subB L (Val.idsL ys) with
    | false => rw [hc] at hk; exact hk.elim
    | true =>
      rw [hc] at hk
      simp only [Bool.and_eq_true] at hc
      exact call_frame hI hc.1.1 hc.1.2 hv hc.2 (K := outK K KP) (hk.mono fun o σc h => by cases o <;> exact h)

/-! ### One operation -/
def aPick (q : Bool) (x y : Val) (K : Val → Prop) : Prop :=
  match x, y with
  | .c (.d (.bool a)), .c (.d (.bool b)) => K (.c (.d (.bool (bif q then a else b))))
  | x, y => bif q then K x else K y

def avs : List Val → Option (List AV)
  | [] => some []
  | .c a :: l => match avs l with | some r => some (a :: r) | none => none
  | _ :: _ => none

def isFn : Fn → Option FuncId
  | .func f => some f
  | _ => none

def aBuiltin (T : Tab) (σ : List AObj) (b : Builtin) (ts : Array Nat) (xs : List Val) (K : Val → List AObj → Prop) : Prop :=
  match b, ts.toList, xs with
  | .len, [t], [x] => bif lenTy T t x then aLen x (fun v => K v σ) else False
  | .append, [t, t'], [s, x] => bif natEq t' t then aAppend T σ t s x K else aAppendS T σ t t' s x K
  | .max, _, [x, y] => aMax x y (fun v => K v σ)
  | .min, _, [x, y] => aMin x y (fun v => K v σ)
  | .delete, [t, _], [x, y] => aMapDel T σ t x y K
  | _, _, _ => False

def forceV (v : Val) (K : Val → Prop) : Prop :=
  match v with
  | .c a => (match a with
    | .d x => K (.c (.d x))
    | .ptr o k => forceN o (fun o => K (.c (.ptr o k)))
    | .own o n => forceN o (fun o => K (.c (.own o n)))
    | .rowp o n j s k => forceN o (fun o => K (.c (.rowp o n j s k)))
    | .emp => K (.c .emp)
    | .full r sz rows => K (.c (.full r sz rows))
    | .mp o => K (.c (.mp o))
    | .fn f a b => K (.c (.fn f a b))
    | .ifc t a => K (.c (.ifc t a))
    | .ifa t l => K (.c (.ifa t l)))
  | .agg l => K (.agg l)
  | .tup l => K (.tup l)
  | .junk => K .junk
theorem forceV_eq (v : Val) (K : Val → Prop) : forceV v K = K v := by
  cases v with
  | c a => cases a <;> simp only [forceV, forceN_eq]
  | _ => rfl
def forceA (a : AV) (K : AV → Prop) : Prop :=
  match a with
  | .d x => K (.d x)
  | .ptr o k => forceN o (fun o => K (.ptr o k))
  | .own o n => forceN o (fun o => K (.own o n))
  | .rowp o n j s k => forceN o (fun o => K (.rowp o n j s k))
  | .emp => K .emp
  | .full r sz rows => K (.full r sz rows)
  | .mp o => K (.mp o)
  | .fn f a b => K (.fn f a b)
  | .ifc t a => K (.ifc t a)
  | .ifa t l => K (.ifa t l)
theorem forceA_eq (a : AV) (K : AV → Prop) : forceA a K = K a := by cases a <;> simp only [forceA, forceN_eq]
def forceL : List AV → (List AV → Prop) → Prop
  | [], K => K []
  | a :: l, K => forceA a (fun a => forceL l (fun l => K (a :: l)))
theorem forceL_eq : ∀ (l : List AV) (K : List AV → Prop), forceL l K = K l
  | [], _ => rfl
  | a :: l, K => by simp only [forceL, forceA_eq, forceL_eq]
def forceO (o : AObj) (K : AObj → Prop) : Prop :=
  match o with
  | .var cells => forceL cells (fun l => K (.var l))
  | .row e sz rows => K (.row e sz rows)
  | .frz r l => K (.frz r l)
  | .mp k e l => K (.mp k e l)
  | .it m a b c => forceA m (fun m => K (.it m a b c))
  | .gone => K .gone
theorem forceO_eq (o : AObj) (K : AObj → Prop) : forceO o K = K o := by cases o <;> simp only [forceO, forceL_eq, forceA_eq]
def forceS : List AObj → (List AObj → Prop) → Prop
  | [], K => K []
  | o :: l, K => forceO o (fun o => forceS l (fun l => K (o :: l)))
theorem forceS_eq : ∀ (l : List AObj) (K : List AObj → Prop), forceS l K = K l
  | [], _ => rfl
  | o :: l, K => by simp only [forceS, forceO_eq, forceS_eq]
/-- A new state of the objects, in its form. -/
def fK (K : Val → List AObj → Prop) (v : Val) (σ : List AObj) : Prop := forceS σ (fun σ => K v σ)
theorem fK_eq (K : Val → List AObj → Prop) : fK K = K := by funext v σ; exact forceS_eq σ _

def aop (P : Program) (T : Tab) (ρ : Nat) (env : List (Nat × Val)) (σ : List AObj) (o : Oper) (K : Val → List AObj → Prop) (KD : Dfr → Prop) (KP : AV → List AObj → Prop) : Prop :=
  match o.op with
  | .move x => K (ev env x) σ
  | .assign x => K (ev env x) σ
  | .pick c a b => match ev env c with
    | .c (.d (.bool q)) => aPick q (ev env a) (ev env b) (fun v => K v σ)
    | _ => False
  | .alloc t => aAlloc T σ t (fK K)
  | .box _ x => aBox σ (ev env x) (fK K)
  | .build t ps => aBuild T t (ps.toList.map fun p => (p.1, ev env p.2)) (fun v => K v σ)
  | .buildSlice t len ps => aBuildSlice T ρ σ t len (ps.toList.map fun p => (p.1, ev env p.2)) (fK K)
  | .makeSlice t x y => aMake T ρ σ t (ev env x) (ev env y) (fK K)
  | .makeMap t r => aMkMap T σ t (r.map (ev env)) (fK K)
  | .lookup t x i ok => aLookup T σ t (ev env x) (ev env i) ok (fun v => K v σ)
  | .mapUpdate t m k x => aMapSet T ρ σ t (ev env m) (ev env k) (ev env x) (fun σ' => fK K .junk σ')
  | .insert t m k x => aMapSet T ρ σ t (ev env m) (ev env k) (ev env x) (fun σ' => fK K .junk σ')
  | .mapEntry t m k => aMapEntry T σ t (ev env m) (ev env k) (fK K)
  | .entryStore t m s x => aEntrySet T σ t (ev env m) (ev env s) (ev env x) (fun σ' => fK K .junk σ')
  | .range t x => aRange T σ t (ev env x) (fK K)
  | .next x s => aNext σ (ev env x) s (fK K)
  | .entry x => aEntry σ (ev env x) (fun v => K v σ)
  | .load t a => aLoadW T σ t (ev env a) K
  | .store t a x => aStoreW T ρ σ t (ev env a) (ev env x) (fun σ' => fK K .junk σ')
  | .nilCheck x => aNil (ev env x) (fun v => K v σ)
  | .binOp op t x y _ => aBinS T σ op t (ev env x) (ev env y) (isC x || isC y) (fun v => K v σ)
  | .unOp op _ x => aUn op (ev env x) (fun v => K v σ)
  | .convert s d x => aConvB T ρ σ s d (ev env x) (fK K)
  | .makeInterface t x => aMkIfc T t (ev env x) (fun v => K v σ)
  | .makeFunc fn first cap => match isFn fn, avs (first.toList.map (ev env)), avs (cap.toList.map (ev env)) with
    | some f, some a, some b => K (.c (.fn f a b)) σ
    | _, _, _ => False
  | .slice t x lo hi mx => aSlice T t (ev env x) (lo.map (ev env)) (hi.map (ev env)) (mx.map (ev env)) (fun v => K v σ)
  | .fieldAddr s x f => aFieldAddr T s (ev env x) f (fun v => K v σ)
  | .field s x f => aField T s (ev env x) f (fun v => K v σ)
  | .indexAddr t x i => aIndexAddr T σ t (ev env x) (ev env i) (fun v => K v σ)
  | .index t x i => aIndex T t (ev env x) (ev env i) (fun v => K v σ)
  | .typeAssert x _ t ok => aAssert T (ev env x) t ok (fun v => K v σ)
  | .extract x k => aExtract (ev env x) k (fun v => K v σ)
  | .call c => match c.callee with
    | .value f => match ev env f with
      | .c (.fn g first cap) => aCallF P T ρ g (first.map .c ++ (c.args.toList.map (ev env) ++ cap.map .c)) σ (fK K) KP
      | .c (.d (.fnd g first cap)) => aCallF P T ρ g ((first.map .d).map .c ++ (c.args.toList.map (ev env) ++ (cap.map .d).map .c)) σ (fK K) KP
      | _ => False
    | .builtin b => aBuiltin T σ b c.argTypes (c.args.toList.map (ev env)) (fK K)
    | .invoke _ _ => False
  | .defer c => match c.callee with
    | .value f => match ev env f, avs (c.args.toList.map (ev env)) with
      | .c (.fn g first cap), some as => KD ⟨g, first ++ as ++ cap⟩
      | _, _ => False
    | _ => False
  | .panic x => match ev env x with
    | .c (.ifc t a) => KP (.ifc t a) σ
    | .c (.ifa t l) => KP (.ifa t l) σ
    | .c (.d (.ifc t a)) => KP (.d (.ifc t a)) σ
    | .c (.d (.ifa t l)) => KP (.d (.ifa t l)) σ
    | _ => False
  | _ => False

theorem wp_val {P : Program} {o : Oper} {a : Act} {w w' : World} {v : Value} {next : Act → World → Prop} {Q : Exit → Act → World → Prop} (h : (execOp a.eval o).run P w = .ok (.value v) w') (hn : next (a.put o.dst v) w') :
    o.wp P a w next Q := by unfold Oper.wp; rw [h]; exact hn

theorem wp_ok1 {P : Program} {o : Oper} {a : Act} {w : World} {C : Cz} {σ : List AObj} {s : Sem Value} (hs : execOp a.eval o = (do pure (Next.value (← s)))) {K : Val → List AObj → Prop} (h : OK1 P s w C σ K) {next : Act → World → Prop} {Q : Exit → Act → World → Prop}
    (hn : ∀ v w' C' x σ', K x σ' → Inv w' C' σ' → Ext w C σ w' C' σ' → RepV w' C' v x → next (a.put o.dst v) w') : o.wp P a w next Q := by
  obtain ⟨v, w', C', x, σ', h1, h2, h3, h4, h5⟩ := h
  refine wp_val (v := v) (w' := w') ?_ (hn v w' C' x σ' h2 h3 h4 h5)
  rw [hs, Sem.run_bind, h1]; rfl

theorem parts_rep {w : World} {C : Cz} {a : Act} {S : St} (h : EnvOk w C a S) (ps : Array (Nat × Operand)) : RepP w C (ps.map fun (i, x) => (i, a.eval x)).toList (ps.toList.map fun p => (p.1, ev S.env p.2)) := by
  refine ⟨by simp, fun i p q h1 h2 => ?_⟩
  simp only [Array.toList_map, List.getElem?_map] at h1 h2
  cases hp : ps.toList[i]? with
  | none => rw [hp] at h1; cases h1
  | some y =>
    rw [hp] at h1 h2
    cases h1; cases h2
    exact ⟨rfl, (ev_rep h y.2).k⟩

theorem evs_rep {w : World} {C : Cz} {a : Act} {S : St} (h : EnvOk w C a S) (xs : Array Operand) : RepVs w C (xs.map a.eval).toList (xs.toList.map (ev S.env)) := by
  refine ⟨by simp, fun i v x h1 h2 => ?_⟩
  simp only [Array.toList_map, List.getElem?_map] at h1 h2
  cases hp : xs.toList[i]? with
  | none => rw [hp] at h1; cases h1
  | some y =>
    rw [hp] at h1 h2
    cases h1; cases h2
    exact ev_rep h y

theorem avs_rep {w : World} {C : Cz} : ∀ {xs : List Val} {as : List AV} {vs : List Value}, RepVs w C vs xs → avs xs = some as → RepL w C vs as
  | [], as, vs, h, ha => by simp [avs] at ha; subst ha; exact ⟨h.1, fun i v a _ h2 => by simp at h2⟩
  | .c a :: xs, as, [], h, ha => by have := h.1; simp at this
  | .c a :: xs, as, v :: vs, h, ha => by
    simp only [avs] at ha
    split at ha
    · rename_i r hr
      cases ha
      obtain ⟨h0, h1⟩ := h.tail
      have ih := avs_rep h1 hr
      refine ⟨by simp [ih.1], fun i u b g1 g2 => ?_⟩
      cases i with
      | zero => simp at g1 g2; subst g1; subst g2; exact c_of h0
      | succ i => exact ih.2 i u b (by simpa using g1) (by simpa using g2)
    · cases ha
  | .agg _ :: _, _, _, _, ha => by simp [avs] at ha
  | .tup _ :: _, _, _, _, ha => by simp [avs] at ha
  | .junk :: _, _, _, _, ha => by simp [avs] at ha

theorem fn_parts {w : World} {C : Cz} {v : Value} {f : FuncId} {first cap : List AV} (h : RepA w C v (.fn f first cap)) : ∃ fs cs : Array Value, v = .func (.func f) fs cs ∧ RepL w C fs.toList first ∧ RepL w C cs.toList cap := by
  cases h with
  | fn _ fs cs _ _ vf vc h1 h2 g1 g2 r1 r2 =>
    refine ⟨fs, cs, rfl, ⟨by simpa using h1, fun i u a q1 q2 => ?_⟩, ⟨by simpa using h2, fun i u a q1 q2 => ?_⟩⟩
    · have := g1 i (List.getElem?_eq_some_iff.1 q2).1
      rw [Array.getElem?_toList, this] at q1; cases q1
      exact r1 i a q2
    · have := g2 i (List.getElem?_eq_some_iff.1 q2).1
      rw [Array.getElem?_toList, this] at q1; cases q1
      exact r2 i a q2

theorem fnd_parts {w : World} {C : Cz} {v : Value} {f : FuncId} {first cap : List DV} (h : RepA w C v (.d (.fnd f first cap))) : ∃ fs cs : Array Value, v = .func (.func f) fs cs ∧ RepL w C fs.toList (first.map .d) ∧ RepL w C cs.toList (cap.map .d) := by
  cases repA_d h with
  | fnd _ fs cs _ _ vf vc h1 h2 g1 g2 r1 r2 =>
    refine ⟨fs, cs, rfl, ⟨by simpa using h1, fun i u a q1 q2 => ?_⟩, ⟨by simpa using h2, fun i u a q1 q2 => ?_⟩⟩
    · rw [List.getElem?_map] at q2
      cases hx : first[i]? with
      | none => rw [hx] at q2; cases q2
      | some x =>
        rw [hx] at q2
        cases q2
        have := g1 i (List.getElem?_eq_some_iff.1 hx).1
        rw [Array.getElem?_toList, this] at q1; cases q1
        exact .d _ _ (r1 i x hx)
    · rw [List.getElem?_map] at q2
      cases hx : cap[i]? with
      | none => rw [hx] at q2; cases q2
      | some x =>
        rw [hx] at q2
        cases q2
        have := g2 i (List.getElem?_eq_some_iff.1 hx).1
        rw [Array.getElem?_toList, this] at q1; cases q1
        exact .d _ _ (r2 i x hx)

theorem repL_vs {w : World} {C : Cz} {vs : List Value} {as : List AV} (h : RepL w C vs as) : RepVs w C vs (as.map .c) :=
  ⟨by simp [h.1], fun i v x h1 h2 => by
    rw [List.getElem?_map] at h2
    cases ha : as[i]? with
    | none => rw [ha] at h2; cases h2
    | some a => rw [ha] at h2; cases h2; exact .c _ _ (h.2 i v a h1 ha)⟩

theorem RepVs.append {w : World} {C : Cz} {vs us : List Value} {xs ys : List Val} (h : RepVs w C vs xs) (g : RepVs w C us ys) : RepVs w C (vs ++ us) (xs ++ ys) :=
  ⟨by simp [h.1, g.1], fun i v x h1 h2 => by
    have hl := h.1
    by_cases hi : i < vs.length
    · rw [List.getElem?_append_left hi] at h1
      rw [List.getElem?_append_left (by omega)] at h2
      exact h.2 i v x h1 h2
    · rw [List.getElem?_append_right (by omega)] at h1
      rw [List.getElem?_append_right (by omega)] at h2
      rw [hl] at h1
      exact g.2 _ v x h1 h2⟩
theorem RepL.append {w : World} {C : Cz} {vs us : List Value} {xs ys : List AV} (h : RepL w C vs xs) (g : RepL w C us ys) : RepL w C (vs ++ us) (xs ++ ys) :=
  ⟨by simp [h.1, g.1], fun i v x h1 h2 => by
    have hl := h.1
    by_cases hi : i < vs.length
    · rw [List.getElem?_append_left hi] at h1
      rw [List.getElem?_append_left (by omega)] at h2
      exact h.2 i v x h1 h2
    · rw [List.getElem?_append_right (by omega)] at h1
      rw [List.getElem?_append_right (by omega)] at h2
      rw [hl] at h1
      exact g.2 _ v x h1 h2⟩

theorem two_of {α : Type} {xs : Array α} {l : List Val} {w : World} {C : Cz} {f : α → Value} (h : RepVs w C (xs.map f).toList l) {x y : Val} (hl : l = [x, y]) : ∃ u v, xs.map f = #[u, v] ∧ RepV w C u x ∧ RepV w C v y := by
  subst hl
  have hn := h.1
  generalize hz : (xs.map f) = z at h hn
  obtain ⟨zl⟩ := z
  match zl, hn with
  | [u, v], _ => exact ⟨u, v, rfl, h.2 0 u x rfl rfl, h.2 1 v y rfl rfl⟩
theorem one_of {α : Type} {xs : Array α} {l : List Val} {w : World} {C : Cz} {f : α → Value} (h : RepVs w C (xs.map f).toList l) {x : Val} (hl : l = [x]) : ∃ u, xs.map f = #[u] ∧ RepV w C u x := by
  subst hl
  have hn := h.1
  generalize hz : (xs.map f) = z at h hn
  obtain ⟨zl⟩ := z
  match zl, hn with
  | [u], _ => exact ⟨u, rfl, h.2 0 u x rfl rfl⟩

theorem repO_map {w : World} {C : Cz} {a : Act} {S : St} (h : EnvOk w C a S) (x : Option Operand) : RepO w C (x.map a.eval) (x.map (ev S.env)) := by
  cases x with
  | none => trivial
  | some x => exact ev_rep h x

end Go.Proofs.YtmaokphbfjpodaaGreatDoor.E

/- The engine, part 15: the machine does what is told of an operation; regions; code. No conditions. -/
set_option linter.unusedVariables false
set_option linter.unusedSimpArgs false
namespace Go.Proofs.YtmaokphbfjpodaaGreatDoor.E
open Go

section
variable {P : Program} {T : Tab} (HT : TabOk P T)

theorem call_wp {o : Oper} {a : Act} {w : World} {C : Cz} {S : St} {next : Act → World → Prop} {Q : Exit → Act → World → Prop} {f : FuncId} {vs : Array Value} (hrun : (execOp a.eval o).run P w = .ok (.enter f vs) w)
    {K : Val → List AObj → Prop} {KP : AV → List AObj → Prop} (hc : Calls P f vs w fun e w' => ∃ x σ' C', outK K KP x σ' ∧ Inv w' C' σ' ∧ Ext w C S.σ w' C' σ' ∧ OutOk w' C' e x)
    (hn : ∀ v w' C' x σ', K x σ' → Inv w' C' σ' → Ext w C S.σ w' C' σ' → RepV w' C' v x → next (a.put o.dst v) w')
    (hp : ∀ v x w' C' σ', KP x σ' → Inv w' C' σ' → Ext w C S.σ w' C' σ' → RepA w' C' v x → Q (.panic [{ v := v, recovered := false }]) a w') : o.wp P a w next Q := by
  unfold Oper.wp
  rw [hrun, Oper.upon_enter]
  refine hc.mono ?_
  rintro e w' ⟨x, σ', C', hk, h1, h2, h3⟩
  cases x with
  | ret y =>
    obtain ⟨v, rfl, hr⟩ := h3
    exact hn v w' C' y σ' hk h1 h2 hr
  | pan y =>
    obtain ⟨v, rfl, hr⟩ := h3
    exact hp v y w' C' σ' hk h1 h2 hr

theorem builtin_wp {o : Oper} {a : Act} {w : World} {C : Cz} {σ : List AObj} {s : Sem Value} (hs : (execOp a.eval o).run P w = ((do pure (Next.value (← s)) : Sem Next)).run P w) {K : Val → List AObj → Prop} (h : OK1 P s w C σ K) {next : Act → World → Prop} {Q : Exit → Act → World → Prop}
    (hn : ∀ v w' C' x σ', K x σ' → Inv w' C' σ' → Ext w C σ w' C' σ' → RepV w' C' v x → next (a.put o.dst v) w') : o.wp P a w next Q := by
  obtain ⟨v, w', C', x, σ', h1, h2, h3, h4, h5⟩ := h
  refine wp_val (v := v) (w' := w') ?_ (hn v w' C' x σ' h2 h3 h4 h5)
  rw [hs, Sem.run_bind, h1]; rfl

set_option maxHeartbeats 4000000 in
include HT in
theorem aop_ok (ρ : Nat) {w : World} {C : Cz} {a : Act} {S : St} (hI : Inv w C S.σ) (hE : EnvOk w C a S) {o : Oper} {K : Val → List AObj → Prop} {KD : Dfr → Prop} {KP : AV → List AObj → Prop} (hk : aop P T ρ S.env S.σ o K KD KP)
    {next : Act → World → Prop} {Q : Exit → Act → World → Prop}
    (hn : ∀ v w' C' x σ', K x σ' → Inv w' C' σ' → Ext w C S.σ w' C' σ' → RepV w' C' v x → next (a.put o.dst v) w')
    (hd : ∀ d x, KD x → DfrOk w C d x → next ({ a with defers := d :: a.defers }.put o.dst undef) w)
    (hp : ∀ v x w' C' σ', KP x σ' → Inv w' C' σ' → Ext w C S.σ w' C' σ' → RepA w' C' v x → Q (.panic [{ v := v, recovered := false }]) a w') : o.wp P a w next Q := by
  unfold aop at hk
  simp only [fK_eq] at hk
  split at hk
  · rename_i x ho
    exact wp_val (by simp [execOp, ho]) (hn _ w C _ S.σ hk hI (.refl w C _) (ev_rep hE x))
  · rename_i x ho
    exact wp_val (by simp [execOp, ho]) (hn _ w C _ S.σ hk hI (.refl w C _) (ev_rep hE x))
  · rename_i c x y ho
    split at hk
    · rename_i q hc
      have h0 := ev_rep hE c
      rw [hc] at h0
      have hb := bool_of h0
      have hx := ev_rep hE x
      have hy := ev_rep hE y
      refine wp_val (v := if q = true then a.eval x else a.eval y) (w' := w) ?_ ?_
      · simp only [execOp, ho, hb, asBool, Sem.run_bind, Sem.run_pure, Result.andThen_ok]
      · unfold aPick at hk
        split at hk
        · rename_i p1 p2 e1 e2
          rw [e1] at hx
          rw [e2] at hy
          refine hn _ w C _ S.σ hk hI (.refl w C _) ?_
          cases q
          · simpa using hy
          · simpa using hx
        · cases q
          · exact hn _ w C _ S.σ hk hI (.refl w C _) (by simpa using hy)
          · exact hn _ w C _ S.σ hk hI (.refl w C _) (by simpa using hx)
    · exact hk.elim
  · rename_i t ho
    exact wp_ok1 (by simp [execOp, ho]) (ok_alloc HT hI hk) hn
  · rename_i t x ho
    exact wp_ok1 (s := Instr.box t (a.eval x)) (by simp [execOp, ho]) (ok_box hI (ev_rep hE x) hk) hn
  · rename_i t ps ho
    exact wp_ok1 (s := Instr.build t (ps.map fun (i, x) => (i, a.eval x))) (by simp [execOp, ho]) (ok_build HT hI (parts_rep hE ps) hk) hn
  · rename_i t len ps ho
    exact wp_ok1 (s := Instr.buildSlice t len (ps.map fun (i, x) => (i, a.eval x))) (by simp [execOp, ho]) (ok_buildSlice HT ρ hI (parts_rep hE ps) hk) hn
  · rename_i t x y ho
    exact wp_ok1 (s := Instr.makeSlice t (a.eval x) (a.eval y)) (by simp [execOp, ho]) (ok_make HT ρ hI (ev_rep hE x) (ev_rep hE y) hk) hn
  · rename_i t r ho
    exact wp_ok1 (s := Instr.makeMap t (r.map a.eval)) (by simp [execOp, ho]) (ok_mkMap HT hI (fun v x h1 h2 => by
      cases r with
      | none => cases h1
      | some y => cases h1; cases h2; exact ev_rep hE y) (by cases r <;> rfl) hk) hn
  · rename_i t x i ok ho
    exact wp_ok1 (s := Instr.lookup t (a.eval x) (a.eval i) ok) (by simp [execOp, ho]) (ok_lookup HT hI (ev_rep hE x) (ev_rep hE i) ok hk) hn
  · rename_i t m k x ho
    obtain ⟨w', C', σ', h1, h2, h3, h4⟩ := ok_mapSet HT ρ hI (ev_rep hE m) (ev_rep hE k) (ev_rep hE x) hk
    unfold Oper.wp
    have : (execOp a.eval o).run P w = .ok .skip w' := by simp [execOp, ho, h1]
    rw [this]
    exact hn _ w' C' _ σ' h2 h3 h4 (.junk _)
  · rename_i t m k x ho
    obtain ⟨w', C', σ', h1, h2, h3, h4⟩ := ok_mapSet HT ρ hI (ev_rep hE m) (ev_rep hE k) (ev_rep hE x) hk
    unfold Oper.wp
    have : (execOp a.eval o).run P w = .ok .skip w' := by simp [execOp, ho, h1]
    rw [this]
    exact hn _ w' C' _ σ' h2 h3 h4 (.junk _)
  · rename_i t m k ho
    exact wp_ok1 (s := Instr.mapEntry t (a.eval m) (a.eval k)) (by simp [execOp, ho]) (ok_mapEntry HT hI (ev_rep hE m) (ev_rep hE k) hk) hn
  · rename_i t m s x ho
    obtain ⟨w', C', σ', h1, h2, h3, h4⟩ := ok_entrySet HT hI (ev_rep hE m) (ev_rep hE s) (ev_rep hE x) hk
    unfold Oper.wp
    have : (execOp a.eval o).run P w = .ok .skip w' := by simp [execOp, ho, h1]
    rw [this]
    exact hn _ w' C' _ σ' h2 h3 h4 (.junk _)
  · rename_i t x ho
    exact wp_ok1 (s := Instr.range t (a.eval x)) (by simp [execOp, ho]) (ok_range HT hI (ev_rep hE x) hk) hn
  · rename_i x s ho
    exact wp_ok1 (s := Instr.next (a.eval x) s o.type) (by simp [execOp, ho]) (ok_next hI (ev_rep hE x) hk) hn
  · rename_i x ho
    exact wp_ok1 (s := Instr.entry (a.eval x)) (by simp [execOp, ho]) (ok_entry hI (ev_rep hE x) hk) hn
  · rename_i t x ho
    exact wp_ok1 (s := Instr.loadAt t (a.eval x)) (by simp [execOp, ho]) (ok_loadW HT hI (ev_rep hE x) hk) hn
  · rename_i t x y ho
    obtain ⟨w', C', σ', h1, h2, h3, h4⟩ := ok_storeW HT ρ hI (ev_rep hE x) (ev_rep hE y) hk
    unfold Oper.wp
    have : (execOp a.eval o).run P w = .ok .skip w' := by simp [execOp, ho, h1]
    rw [this]
    exact hn _ w' C' _ σ' h2 h3 h4 (.junk _)
  · rename_i x ho
    obtain ⟨h1, h2⟩ := ok_nil (ev_rep hE x) hk
    refine wp_val (v := a.eval x) (w' := w) ?_ (hn _ w C _ S.σ h1 hI (.refl w C _) (ev_rep hE x))
    rcases h2 with ⟨b, hb⟩ | ⟨f, b, c, hb⟩ <;> simp [execOp, ho, hb]
  · rename_i op t x y yt ho
    exact wp_ok1 (s := do eqGuard op t x y (a.eval x) (a.eval y); binOp op t (a.eval x) (a.eval y)) (by simp [execOp, ho]) (ok_binS HT hI (ev_rep hE x) (ev_rep hE y) hk) hn
  · rename_i op t x ho
    exact wp_ok1 (s := Op.unary op (a.eval x)) (by simp [execOp, ho]) (ok_un hI (ev_rep hE x) hk) hn
  · rename_i s d x ho
    exact wp_ok1 (s := convert s d (a.eval x)) (by simp [execOp, ho]) (ok_convB HT ρ hI (ev_rep hE x) hk) hn
  · rename_i t x ho
    exact wp_ok1 (s := Instr.makeInterface t (a.eval x)) (by simp [execOp, ho]) (ok_mkIfc HT hI (ev_rep hE x) hk) hn
  · rename_i fn first cap ho
    split at hk
    · rename_i f as bs h1 h2 h3
      obtain rfl : fn = .func f := by cases fn <;> simp [isFn] at h1; subst h1; rfl
      have r1 := avs_rep (evs_rep hE first) h2
      have r2 := avs_rep (evs_rep hE cap) h3
      refine wp_val (v := .func (.func f) (first.map a.eval) (cap.map a.eval)) (w' := w) (by simp [execOp, ho, Instr.makeFunc]) (hn _ w C _ S.σ hk hI (.refl w C _) (.c _ _ ?_))
      refine .fn f _ _ as bs (fun i => ((first.map a.eval)[i]?).getD undef) (fun i => ((cap.map a.eval)[i]?).getD undef) (by have := r1.1; simpa using this) (by have := r2.1; simpa using this) (fun i hi => ?_) (fun i hi => ?_) (fun i x hx => ?_) (fun i x hx => ?_)
      · have := r1.1
        rw [Array.getElem?_eq_getElem (by simp at this ⊢; omega)]; rfl
      · have := r2.1
        rw [Array.getElem?_eq_getElem (by simp at this ⊢; omega)]; rfl
      · have hl := r1.1
        have hi := (List.getElem?_eq_some_iff.1 hx).1
        have e : (first.map a.eval)[i]? = some ((first.map a.eval)[i]'(by simp at hl ⊢; omega)) := Array.getElem?_eq_getElem _
        rw [e]
        exact r1.2 i _ x (by rw [Array.getElem?_toList]; exact e) hx
      · have hl := r2.1
        have hi := (List.getElem?_eq_some_iff.1 hx).1
        have e : (cap.map a.eval)[i]? = some ((cap.map a.eval)[i]'(by simp at hl ⊢; omega)) := Array.getElem?_eq_getElem _
        rw [e]
        exact r2.2 i _ x (by rw [Array.getElem?_toList]; exact e) hx
    · exact hk.elim
  · rename_i t x lo hi mx ho
    exact wp_ok1 (s := Instr.sliceAt t (a.eval x) (lo.map a.eval) (hi.map a.eval) (mx.map a.eval)) (by simp [execOp, ho]) (ok_slice HT hI (ev_rep hE x) (repO_map hE lo) (repO_map hE hi) (repO_map hE mx) hk) hn
  · rename_i s x f ho
    exact wp_ok1 (s := Instr.fieldAt s (a.eval x) f) (by simp [execOp, ho]) (ok_fieldAddr HT hI (ev_rep hE x) hk) hn
  · rename_i s x f ho
    exact wp_ok1 (s := Instr.field s (a.eval x) f) (by simp [execOp, ho]) (ok_field HT hI (ev_rep hE x) hk) hn
  · rename_i t x i ho
    exact wp_ok1 (s := Instr.indexAt t (a.eval x) (a.eval i)) (by simp [execOp, ho]) (ok_indexAddr HT hI (ev_rep hE x) (ev_rep hE i) hk) hn
  · rename_i t x i ho
    exact wp_ok1 (s := Instr.index t (a.eval x) (a.eval i)) (by simp [execOp, ho]) (ok_index HT hI (ev_rep hE x) (ev_rep hE i) hk) hn
  · rename_i x xt t ok ho
    exact wp_ok1 (s := Instr.typeAssert (a.eval x) xt t ok) (by simp [execOp, ho]) (ok_assert HT hI (ev_rep hE x) hk) hn
  · rename_i x k ho
    exact wp_ok1 (s := Instr.extract (a.eval x) k) (by simp [execOp, ho]) (ok_extract hI (ev_rep hE x) hk) hn
  · rename_i c ho
    split at hk
    · rename_i f hcal
      split at hk
      · rename_i g first cap hf
        unfold aCallF at hk
        cases hfok : T.fok g with
        | false => rw [hfok] at hk; exact hk.elim
        | true =>
        rw [hfok] at hk
        simp only [cond_true] at hk
        have hv := ev_rep hE f
        rw [hf] at hv
        obtain ⟨fs, cs, hfv, r1, r2⟩ := fn_parts (c_of hv)
        have hargs := evs_rep hE c.args
        have hall : RepVs w C (fs ++ c.args.map a.eval ++ cs).toList (first.map .c ++ (c.args.toList.map (ev S.env) ++ cap.map .c)) := by
          have := (repL_vs r1).append (hargs.append (repL_vs r2))
          simpa using this
        obtain ⟨C1, ys, σ1, k1, l1, I1, E1, v1⟩ := aArgs_ok ρ hI hall hk
        have hc := aCall0_ok I1 v1 k1
        refine call_wp (C := C) (S := S) (f := g) (vs := fs ++ c.args.map a.eval ++ cs) ?_ (hc.mono fun e w' ⟨x, σ', C', q1, q2, q3, q4⟩ => ⟨x, σ', C', q1, q2, E1.trans q3, q4⟩) hn hp
        have := HT.fok g hfok (fs ++ c.args.map a.eval ++ cs) w
        simp only [execOp, ho, resolve, hcal, hfv, Deferred.ofValue, Sem.run_bind, Sem.run_pure, Result.andThen_ok, invoke]
        exact this
      · rename_i g first cap hf
        unfold aCallF at hk
        cases hfok : T.fok g with
        | false => rw [hfok] at hk; exact hk.elim
        | true =>
        rw [hfok] at hk
        simp only [cond_true] at hk
        have hv := ev_rep hE f
        rw [hf] at hv
        obtain ⟨fs, cs, hfv, r1, r2⟩ := fnd_parts (c_of hv)
        have hargs := evs_rep hE c.args
        have hall : RepVs w C (fs ++ c.args.map a.eval ++ cs).toList ((first.map .d).map .c ++ (c.args.toList.map (ev S.env) ++ (cap.map .d).map .c)) := by
          have := (repL_vs r1).append (hargs.append (repL_vs r2))
          simpa using this
        obtain ⟨C1, ys, σ1, k1, l1, I1, E1, v1⟩ := aArgs_ok ρ hI hall hk
        have hc := aCall0_ok I1 v1 k1
        refine call_wp (C := C) (S := S) (f := g) (vs := fs ++ c.args.map a.eval ++ cs) ?_ (hc.mono fun e w' ⟨x, σ', C', q1, q2, q3, q4⟩ => ⟨x, σ', C', q1, q2, E1.trans q3, q4⟩) hn hp
        have := HT.fok g hfok (fs ++ c.args.map a.eval ++ cs) w
        simp only [execOp, ho, resolve, hcal, hfv, Deferred.ofValue, Sem.run_bind, Sem.run_pure, Result.andThen_ok, invoke]
        exact this
      · exact hk.elim
    · rename_i b hcal
      have hargs := evs_rep hE c.args
      unfold aBuiltin at hk
      split at hk
      · rename_i t x ht hxs
        cases hl : lenTy T t x with
        | false => rw [hl] at hk; exact hk.elim
        | true =>
          rw [hl] at hk
          obtain ⟨u, hu, hr⟩ := one_of hargs hxs
          have hts : c.argTypes = #[t] := by have := congrArg List.toArray ht; simpa using this
          exact builtin_wp (s := Builtin.len_ #[t] o.type #[u]) (by simp [execOp, ho, resolve, hcal, invoke, builtin, hts, hu]) (ok_len HT hI hr hl hk) hn
      · rename_i t t' s x ht hxs
        cases hl : natEq t' t with
        | false =>
          rw [hl] at hk
          obtain ⟨u, v, hu, hr1, hr2⟩ := two_of hargs hxs
          have hts : c.argTypes = #[t, t'] := by have := congrArg List.toArray ht; simpa using this
          exact builtin_wp (s := Builtin.append_ #[t, t'] o.type #[u, v]) (by simp [execOp, ho, resolve, hcal, invoke, builtin, hts, hu]) (ok_appendS HT hI hr1 hr2 hk) hn
        | true =>
          rw [hl] at hk
          have := natEq_eq hl
          subst this
          obtain ⟨u, v, hu, hr1, hr2⟩ := two_of hargs hxs
          have hts : c.argTypes = #[t', t'] := by have := congrArg List.toArray ht; simpa using this
          exact builtin_wp (s := Builtin.append_ #[t', t'] o.type #[u, v]) (by simp [execOp, ho, resolve, hcal, invoke, builtin, hts, hu]) (ok_append HT hI hr1 hr2 hk) hn
      · rename_i x y hxs
        obtain ⟨u, v, hu, hr1, hr2⟩ := two_of hargs hxs
        exact builtin_wp (s := Builtin.max_ c.argTypes o.type #[u, v]) (by simp [execOp, ho, resolve, hcal, invoke, builtin, hu]) (ok_max hI hr1 hr2 hk) hn
      · rename_i x y hxs
        obtain ⟨u, v, hu, hr1, hr2⟩ := two_of hargs hxs
        exact builtin_wp (s := Builtin.min_ c.argTypes o.type #[u, v]) (by simp [execOp, ho, resolve, hcal, invoke, builtin, hu]) (ok_min hI hr1 hr2 hk) hn
      · rename_i t t' x y ht hxs
        obtain ⟨u, v, hu, hr1, hr2⟩ := two_of hargs hxs
        have hts : c.argTypes = #[t, t'] := by have := congrArg List.toArray ht; simpa using this
        exact builtin_wp (s := Builtin.delete_ #[t, t'] o.type #[u, v]) (by simp [execOp, ho, resolve, hcal, invoke, builtin, hts, hu]) (ok_mapDel HT hI hr1 hr2 hk) hn
      · exact hk.elim
    · exact hk.elim
  · rename_i c ho
    split at hk
    · rename_i f hcal
      split at hk
      · rename_i g first cap as hf has
        have hv := ev_rep hE f
        rw [hf] at hv
        obtain ⟨fs, cs, hfv, r1, r2⟩ := fn_parts (c_of hv)
        have hargs := avs_rep (evs_rep hE c.args) has
        unfold Oper.wp
        have : (execOp a.eval o).run P w = .ok (.defer { target := .fn (.func g) cs, args := fs ++ c.args.map a.eval }) w := by simp [execOp, ho, resolve, hcal, hfv, Deferred.ofValue]
        rw [this]
        refine hd _ _ hk ⟨cs, rfl, ?_⟩
        have := (r1.append hargs).append r2
        simpa using this
      · exact hk.elim
    · exact hk.elim
  · rename_i x ho
    have hx := ev_rep hE x
    have hrun : ∀ t v, a.eval x = .iface t v → (execOp a.eval o).run P w = .halt (.panic (.iface t v)) w := fun t v e => by simp [execOp, ho, e, Instr.panic]
    split at hk
    · rename_i t y hy
      rw [hy] at hx
      have hr := c_of hx
      obtain ⟨v, hv⟩ : ∃ v, a.eval x = .iface t v := by
        generalize a.eval x = z at hr
        cases hr; exact ⟨_, rfl⟩
      unfold Oper.wp
      rw [hrun t v hv]
      exact hp _ _ w C S.σ hk hI (.refl w C _) (by rw [← hv]; exact hr)
    · rename_i t y hy
      rw [hy] at hx
      have hr := c_of hx
      obtain ⟨v, hv⟩ : ∃ v, a.eval x = .iface t v := by
        generalize a.eval x = z at hr
        cases hr; exact ⟨_, rfl⟩
      unfold Oper.wp
      rw [hrun t v hv]
      exact hp _ _ w C S.σ hk hI (.refl w C _) (by rw [← hv]; exact hr)
    · rename_i t y hy
      rw [hy] at hx
      have hr := c_of hx
      obtain ⟨v, hv⟩ : ∃ v, a.eval x = .iface t v := by
        have hr := repA_d hr
        generalize a.eval x = z at hr
        cases hr; exact ⟨_, rfl⟩
      unfold Oper.wp
      rw [hrun t v hv]
      exact hp _ _ w C S.σ hk hI (.refl w C _) (by rw [← hv]; exact hr)
    · rename_i t y hy
      rw [hy] at hx
      have hr := c_of hx
      obtain ⟨v, hv⟩ : ∃ v, a.eval x = .iface t v := by
        have hr := repA_d hr
        generalize a.eval x = z at hr
        cases hr; exact ⟨_, rfl⟩
      unfold Oper.wp
      rw [hrun t v hv]
      exact hp _ _ w C S.σ hk hI (.refl w C _) (by rw [← hv]; exact hr)
    · exact hk.elim
  · exact hk.elim

end
end Go.Proofs.YtmaokphbfjpodaaGreatDoor.E

/- The engine, part 16: regions in the text's order, code, loops, functions. No conditions. -/
set_option linter.unusedVariables false
set_option linter.unusedSimpArgs false
namespace Go.Proofs.YtmaokphbfjpodaaGreatDoor.E
open Go

/-! ### A region, in the text's order -/
def St.put (n : Nat) (env : List (Nat × Val)) (σ : List AObj) (ds : List Dfr) (d : Option Nat) (v : Val) (K : St → Prop) : Prop :=
  match d with
  | some d => bif Nat.blt d n then forceV v (fun v => K ⟨n, (d, v) :: env, σ, ds⟩) else False
  | none => K ⟨n, env, σ, ds⟩

def astep (P : Program) (T : Tab) (ρ : Nat) (S : St) (o : Oper) (K : St → Prop) (KP : AV → St → Prop) : Prop :=
  match S with
  | ⟨n, env, σ, ds⟩ => aop P T ρ env σ o (fun v σ' => St.put n env σ' ds o.dst v K) (fun x => St.put n env σ (x :: ds) o.dst .junk K) (fun a σ' => KP a ⟨n, env, σ', ds⟩)

theorem blt_lt {a b : Nat} (h : Nat.blt a b = true) : a < b := by rw [Nat.blt_eq] at h; exact h

def dstOf (ops : Array Oper) (j : Nat) : Option Nat := match ops[j]? with | some o => o.dst | none => none

def arun (P : Program) (T : Tab) (ρ : Nat) (ops : Array Oper) : List Oper → St → (St → Prop) → (AV → St → Prop) → Prop
  | [], S, K, KP => K S
  | o :: r, S, K, KP => match o.guard with
    | none => astep P T ρ S o (fun S' => arun P T ρ ops r S' K KP) KP
    | some (j, want) => match dstOf ops j with
      | none => False
      | some g => match S with
        | ⟨n, env, σ, ds⟩ => match get env g with
          | .c (.d (.bool b)) => match want with
            | true => bif b then astep P T ρ ⟨n, (g, .c (.d (.bool true))) :: env, σ, ds⟩ o (fun S' => arun P T ρ ops r S' K KP) KP
                else St.put n ((g, .c (.d (.bool false))) :: env) σ ds o.dst (.tup []) (fun S' => arun P T ρ ops r S' K KP)
            | false => bif b then St.put n ((g, .c (.d (.bool true))) :: env) σ ds o.dst (.tup []) (fun S' => arun P T ρ ops r S' K KP)
                else astep P T ρ ⟨n, (g, .c (.d (.bool false))) :: env, σ, ds⟩ o (fun S' => arun P T ρ ops r S' K KP) KP
          | .tup [] => St.put n env σ ds o.dst (.tup []) (fun S' => arun P T ρ ops r S' K KP)
          | _ => False

theorem rep_undef {w : World} {C : Cz} : RepV w C undef (.tup []) := .tup #[] [] rfl (fun i v x h => by simp at h)

theorem EnvOk.σ {w : World} {C : Cz} {a : Act} {S : St} (h : EnvOk w C a S) (σ' : List AObj) : EnvOk w C a { S with σ := σ' } := ⟨h.size, h.env, h.dlen, h.ds⟩

/-- What is known of a slot may be told again. -/
theorem EnvOk.known {w : World} {C : Cz} {a : Act} {S : St} (h : EnvOk w C a S) (g : Nat) {v : Val} (hv : get S.env g = v) : EnvOk w C a { S with env := (g, v) :: S.env } :=
  ⟨h.size, fun t => by
    simp only [get_cons]
    by_cases e : g = t
    · subst e; rw [if_pos rfl, ← hv]; exact h.env g
    · rw [if_neg e]; exact h.env t, h.dlen, h.ds⟩

theorem put_env {w : World} {C : Cz} {a : Act} {n : Nat} {env : List (Nat × Val)} {σ : List AObj} {ds : List Dfr} (h : EnvOk w C a ⟨n, env, σ, ds⟩) {d : Option Nat} {v : Value} {x : Val} (hx : RepV w C v x) {K : St → Prop} (hk : St.put n env σ ds d x K) :
    ∃ S', K S' ∧ EnvOk w C (a.put d v) S' ∧ S'.σ = σ := by
  unfold St.put at hk
  split at hk
  · rename_i d
    cases hb : Nat.blt d n with
    | false => rw [hb] at hk; exact hk.elim
    | true =>
      rw [hb] at hk
      simp only [forceV_eq, cond_true] at hk
      exact ⟨_, hk, h.put (S := ⟨n, env, σ, ds⟩) (blt_lt hb) hx, rfl⟩
  · exact ⟨_, hk, h, rfl⟩

section
variable {P : Program} {T : Tab} (HT : TabOk P T)

inductive AEx where
  | normal
  | exit (id : Nat)
  | ret
  | pan (a : AV)

def XOk (w : World) (C : Cz) : Exit → AEx → Prop
  | .normal, .normal => True
  | .exit i, .exit j => i = j
  | .ret, .ret => True
  | .panic ch, .pan a => ∃ v, ch = [{ v := v, recovered := false }] ∧ RepA w C v a
  | _, _ => False

/-- How code ends that was begun in w, C, σ. -/
def Post (w : World) (C : Cz) (σ : List AObj) (K : AEx → St → Prop) (e : Exit) (a' : Act) (w' : World) : Prop :=
  ∃ x S' C', K x S' ∧ XOk w' C' e x ∧ Inv w' C' S'.σ ∧ EnvOk w' C' a' S' ∧ Ext w C σ w' C' S'.σ

include HT in
theorem astep_ok (ρ : Nat) {w0 : World} {C0 : Cz} {σ0 : List AObj} {w : World} {C : Cz} {a : Act} {S : St} (hI : Inv w C S.σ) (hE : EnvOk w C a S) (hX : Ext w0 C0 σ0 w C S.σ) {o : Oper} {K : St → Prop} {KP : AV → St → Prop} (hk : astep P T ρ S o K KP)
    {next : Act → World → Prop} {Q : Exit → Act → World → Prop}
    (hn : ∀ S' w' C' a', K S' → Inv w' C' S'.σ → EnvOk w' C' a' S' → Ext w0 C0 σ0 w' C' S'.σ → next a' w')
    (hp : ∀ v x S' w' C', KP x S' → Inv w' C' S'.σ → EnvOk w' C' a S' → Ext w0 C0 σ0 w' C' S'.σ → RepA w' C' v x → Q (.panic [{ v := v, recovered := false }]) a w') : o.wp P a w next Q := by
  obtain ⟨n, env, σ, ds⟩ := S
  unfold astep at hk
  refine aop_ok HT ρ (S := ⟨n, env, σ, ds⟩) hI hE hk (fun v w' C' x σ' h1 h2 h3 h4 => ?_) (fun d x h1 h2 => ?_) (fun v x w' C' σ' h1 h2 h3 h4 => ?_)
  · obtain ⟨S', q1, q2, q3⟩ := put_env ((hE.mono h3.le).σ σ') h4 h1
    exact hn S' w' C' _ q1 (by rw [q3]; exact h2) q2 (by rw [q3]; exact hX.trans h3)
  · have hE' : EnvOk w C { a with defers := d :: a.defers } ⟨n, env, σ, x :: ds⟩ := ⟨hE.size, hE.env, by simp [hE.dlen], fun i d' x' g1 g2 => by
      cases i with
      | zero => simp at g1 g2; subst g1; subst g2; exact h2
      | succ i => exact hE.ds i d' x' (by simpa using g1) (by simpa using g2)⟩
    obtain ⟨S', q1, q2, q3⟩ := put_env hE' (.junk _) h1
    exact hn S' w C _ q1 (by rw [q3]; exact hI) q2 (by rw [q3]; exact hX)
  · exact hp v x _ w' C' h1 h2 ((hE.mono h3.le).σ σ') (hX.trans h3) h4

theorem yielded_of {w : World} {C : Cz} {a : Act} {S : St} (hE : EnvOk w C a S) {ops : Array Oper} {j g : Nat} (hj : dstOf ops j = some g) {b : Bool} (hb : get S.env g = .c (.d (.bool b))) : yielded ops a.tmps j = some b := by
  have h1 := hE.env g
  rw [hb] at h1
  have h2 := bool_of h1
  unfold dstOf at hj
  split at hj
  · rename_i o ho
    have hget : a.tmps[g]? = some (.bool b) := by
      rw [Array.getD_eq_getD_getElem?] at h2
      cases hx : a.tmps[g]? with
      | none => rw [hx] at h2; simp [undef] at h2
      | some v => rw [hx] at h2; simp at h2; rw [h2]
    simp [yielded, ho, hj, hget]
  · cases hj

theorem yielded_none {w : World} {C : Cz} {a : Act} {S : St} (hE : EnvOk w C a S) {ops : Array Oper} {j g : Nat} (hj : dstOf ops j = some g) (hb : get S.env g = .tup []) : yielded ops a.tmps j = none := by
  have h1 := hE.env g
  rw [hb] at h1
  unfold dstOf at hj
  split at hj
  · rename_i o ho
    simp only [yielded, ho, Option.bind_some, hj]
    rw [Array.getD_eq_getD_getElem?] at h1
    cases hx : a.tmps[g]? with
    | none => rfl
    | some v =>
      rw [hx] at h1
      simp only [Option.getD_some] at h1
      cases h1
      rfl
  · cases hj

include HT in
theorem arun_ok (ρ : Nat) (ops : Array Oper) {w0 : World} {C0 : Cz} {σ0 : List AObj} {K : St → Prop} {KP : AV → St → Prop} {Q : Exit → Act → World → Prop}
    (hn : ∀ S' w' C' a', K S' → Inv w' C' S'.σ → EnvOk w' C' a' S' → Ext w0 C0 σ0 w' C' S'.σ → Q .normal a' w')
    (hp : ∀ v x S' w' C' a, KP x S' → Inv w' C' S'.σ → EnvOk w' C' a S' → Ext w0 C0 σ0 w' C' S'.σ → RepA w' C' v x → Q (.panic [{ v := v, recovered := false }]) a w') :
    ∀ (l : List Oper) {w : World} {C : Cz} {a : Act} {S : St} (hI : Inv w C S.σ) (hE : EnvOk w C a S) (hX : Ext w0 C0 σ0 w C S.σ) (hk : arun P T ρ ops l S K KP), wpList P ops Q l a w
  | [], w, C, a, S, hI, hE, hX, hk => hn S w C a hk hI hE hX
  | o :: r, w, C, a, S, hI, hE, hX, hk => by
    unfold wpList
    simp only [arun] at hk
    split at hk
    · rename_i hg
      rw [if_pos (by simp [Region.wanted, hg])]
      exact .inl (astep_ok HT ρ hI hE hX hk (fun S' w' C' a' h1 h2 h3 h4 => arun_ok ρ ops hn hp r h2 h3 h4 h1) (fun v x S' w' C' h1 h2 h3 h4 h5 => hp v x S' w' C' a h1 h2 h3 h4 h5))
    · rename_i j want hg
      split at hk
      · exact hk.elim
      · rename_i g hj
        obtain ⟨n, env, σ, ds⟩ := S
        simp only at hk
        split at hk
        · rename_i b hb
          have hy := yielded_of hE hj hb
          have hwant : Region.wanted o (yielded ops a.tmps) = (some b == some want) := by simp [Region.wanted, hg, hy]
          have skip : ∀ (b' : Bool), b = b' → St.put n ((g, .c (.d (.bool b'))) :: env) σ ds o.dst (.tup []) (fun S' => arun P T ρ ops r S' K KP) → wpList P ops Q r (a.put o.dst undef) w := fun b' e hk => by
            subst e
            obtain ⟨S', q1, q2, q3⟩ := put_env (hE.known g hb) rep_undef hk
            exact arun_ok ρ ops hn hp r (by rw [q3]; exact hI) q2 (by rw [q3]; exact hX) q1
          have go : ∀ (b' : Bool), b = b' → astep P T ρ ⟨n, (g, .c (.d (.bool b'))) :: env, σ, ds⟩ o (fun S' => arun P T ρ ops r S' K KP) KP → o.wp P a w (wpList P ops Q r) Q := fun b' e hk => by
            subst e
            exact astep_ok HT ρ (S := ⟨n, (g, .c (.d (.bool b))) :: env, σ, ds⟩) hI (hE.known g hb) hX hk (fun S' w' C' a' h1 h2 h3 h4 => arun_ok ρ ops hn hp r h2 h3 h4 h1) (fun v x S' w' C' h1 h2 h3 h4 h5 => hp v x S' w' C' a h1 h2 h3 h4 h5)
          rw [hwant]
          cases want <;> cases b
          · simp only [beq_self_eq_true, if_true]; exact .inl (go false rfl hk)
          · rw [if_neg (by decide)]; exact skip true rfl hk
          · rw [if_neg (by decide)]; exact skip false rfl hk
          · simp only [beq_self_eq_true, if_true]; exact .inl (go true rfl hk)
        · rename_i hb
          have hy := yielded_none hE hj hb
          have hwant : Region.wanted o (yielded ops a.tmps) = false := by simp [Region.wanted, hg, hy]
          rw [hwant, if_neg (by decide)]
          obtain ⟨S', q1, q2, q3⟩ := put_env hE rep_undef hk
          exact arun_ok ρ ops hn hp r (by rw [q3]; exact hI) q2 (by rw [q3]; exact hX) q1
        · exact hk.elim

/-! ### Code -/
structure AW (P : Program) (T : Tab) (ρ : Nat) (c : Code) (S : St) (K : AEx → St → Prop) : Prop where
  out : ∀ (w : World) (C : Cz) (a : Act), Inv w C S.σ → EnvOk w C a S → c.wp P (Post w C S.σ K) a w

include HT in
theorem AW.region {ρ id : Nat} {ops : Array Oper} {S : St} {K : AEx → St → Prop} (h : arun P T ρ ops ops.toList S (K .normal) (fun a => K (.pan a))) : AW P T ρ (.region id ops false) S K :=
  ⟨fun w C a hI hE => wp_region_list (arun_ok HT ρ ops (fun S' w' C' a' h1 h2 h3 h4 => ⟨.normal, S', C', h1, trivial, h2, h3, h4⟩) (fun v x S' w' C' a h1 h2 h3 h4 h5 => ⟨.pan x, S', C', h1, ⟨v, rfl, h5⟩, h2, h3, h4⟩) ops.toList hI hE (.refl w C _) h)⟩

def athen (N : St → Prop) (K : AEx → St → Prop) : AEx → St → Prop
  | .normal, S => N S
  | .exit id, S => K (.exit id) S
  | .ret, S => K .ret S
  | .pan a, S => K (.pan a) S

theorem AW.seq {ρ : Nat} {x y : Code} {S : St} {K : AEx → St → Prop} (h : AW P T ρ x S (athen (fun S' => AW P T ρ y S' K) K)) : AW P T ρ (.seq x y) S K :=
  ⟨fun w C a hI hE => wp_seq (wp_mono (h.out w C a hI hE) fun e a' w' ⟨z, S', C', k, x, i, en, ex⟩ => by
    cases e <;> cases z <;> first | (exact x.elim) | skip
    · exact wp_mono (k.out w' C' a' i en) fun e a'' w'' ⟨z, S'', C'', k, x, i, en, ex'⟩ => ⟨z, S'', C'', k, x, i, en, ex.trans ex'⟩
    · exact ⟨_, S', C', k, x, i, en, ex⟩
    · exact ⟨_, S', C', k, x, i, en, ex⟩
    · exact ⟨_, S', C', k, x, i, en, ex⟩)⟩

theorem AW.skip {ρ : Nat} {S : St} {K : AEx → St → Prop} (h : K .normal S) : AW P T ρ .skip S K := ⟨fun w C a hI hE => wp_skip ⟨_, S, C, h, trivial, hI, hE, .refl w C _⟩⟩
theorem AW.ret {ρ : Nat} {S : St} {K : AEx → St → Prop} (h : K .ret S) : AW P T ρ .ret S K := ⟨fun w C a hI hE => wp_ret ⟨_, S, C, h, trivial, hI, hE, .refl w C _⟩⟩
theorem AW.exit {ρ id : Nat} {S : St} {K : AEx → St → Prop} (h : K (.exit id) S) : AW P T ρ (.exit id) S K := ⟨fun w C a hI hE => wp_exit ⟨_, S, C, h, rfl, hI, hE, .refl w C _⟩⟩

theorem AW.mono {ρ : Nat} {c : Code} {S : St} {K K' : AEx → St → Prop} (h : AW P T ρ c S K) (hk : ∀ e S', K e S' → K' e S') : AW P T ρ c S K' :=
  ⟨fun w C a hI hE => wp_mono (h.out w C a hI hE) fun e a' w' ⟨z, S', C', k, x⟩ => ⟨z, S', C', hk _ _ k, x⟩⟩

def ablk (id : Nat) (K : AEx → St → Prop) : AEx → St → Prop
  | .normal, S => K .normal S
  | .exit id', S => bif natEq id' id then K .normal S else K (.exit id') S
  | .ret, S => K .ret S
  | .pan a, S => K (.pan a) S

theorem AW.block {ρ id : Nat} {c : Code} {S : St} {K : AEx → St → Prop} (h : AW P T ρ c S (ablk id K)) : AW P T ρ (.block id c) S K :=
  ⟨fun w C a hI hE => wp_block (wp_mono (h.out w C a hI hE) fun e a' w' ⟨z, S', C', k, x, i, en, ex⟩ => by
    cases e <;> cases z <;> first | (exact x.elim) | skip
    · exact ⟨_, S', C', k, x, i, en, ex⟩
    · rename_i i1 _ i2
      have hx : i1 = i2 := x
      subst hx
      simp only [ablk] at k
      simp only [Exit.inBlock]
      cases hb : natEq i1 id with
      | true => rw [hb] at k; rw [if_pos (natEq_eq hb)]; exact ⟨.normal, S', C', k, trivial, i, en, ex⟩
      | false =>
        rw [hb] at k
        rw [if_neg (fun e => by subst e; simp [natEq] at hb)]
        exact ⟨.exit i1, S', C', k, rfl, i, en, ex⟩
    · exact ⟨_, S', C', k, x, i, en, ex⟩
    · exact ⟨_, S', C', k, x, i, en, ex⟩)⟩

/-- A test. -/
def acond (P : Program) (T : Tab) (ρ : Nat) (c : Operand) (x y : Code) (S : St) (K : AEx → St → Prop) : Prop :=
  match S with
  | ⟨n, env, σ, ds⟩ => match ev env c with
    | .c (.d (.bool b)) => match c with
      | .tmp t => bif b then AW P T ρ x ⟨n, (t, .c (.d (.bool true))) :: env, σ, ds⟩ K else AW P T ρ y ⟨n, (t, .c (.d (.bool false))) :: env, σ, ds⟩ K
      | _ => bif b then AW P T ρ x ⟨n, env, σ, ds⟩ K else AW P T ρ y ⟨n, env, σ, ds⟩ K
    | _ => False

theorem AW.cond {ρ : Nat} {c : Operand} {x y : Code} {S : St} {K : AEx → St → Prop} (h : acond P T ρ c x y S K) : AW P T ρ (.cond c x y) S K :=
  ⟨fun w C a hI hE => by
    obtain ⟨n, env, σ, ds⟩ := S
    unfold acond at h
    simp only at h
    split at h
    · rename_i b hb
      have hr := ev_rep hE c
      rw [hb] at hr
      have hv := bool_of hr
      refine wp_cond hv ?_
      split at h
      · rename_i t
        cases b with
        | true =>
          have hk : EnvOk w C a ⟨n, (t, .c (.d (.bool true))) :: env, σ, ds⟩ := hE.known t hb
          exact h.out w C a hI hk
        | false =>
          have hk : EnvOk w C a ⟨n, (t, .c (.d (.bool false))) :: env, σ, ds⟩ := hE.known t hb
          exact h.out w C a hI hk
      · cases b with
        | true => exact h.out w C a hI hE
        | false => exact h.out w C a hI hE
    · exact h.elim⟩

/-! ### Fewer slots, fewer objects -/
def fitsE : List (Nat × Val) → List (Nat × Val) → Prop
  | [], _ => True
  | (t, v) :: r, env => get env t = v ∧ fitsE r env

theorem fitsE_get : ∀ {r env : List (Nat × Val)}, fitsE r env → ∀ t, get r t = .junk ∨ get r t = get env t
  | [], _, _, t => .inl rfl
  | (s, v) :: r, env, h, t => by
    rw [get_cons]
    by_cases e : s = t
    · subst e; rw [if_pos rfl]; exact .inr h.1.symm
    · rw [if_neg e]; exact fitsE_get h.2 t

def ltB (n : Nat) : List Nat → Bool
  | [] => true
  | i :: l => Nat.blt i n && ltB n l
theorem ltB_mem {n : Nat} : ∀ {l : List Nat}, ltB n l = true → ∀ i ∈ l, i < n
  | j :: l, h, i, hi => by
    simp only [ltB, Bool.and_eq_true] at h
    rcases List.mem_cons.1 hi with rfl | hi
    · exact blt_lt h.1
    · exact ltB_mem h.2 i hi
def closedN (n : Nat) : List AObj → Bool
  | [] => true
  | o :: l => ltB n o.ids && closedN n l
theorem closedN_mem {n : Nat} : ∀ {l : List AObj}, closedN n l = true → ∀ (k : Nat) o, l[k]? = some o → ∀ i ∈ o.ids, i < n
  | p :: l, h, k, o, hk => by
    simp only [closedN, Bool.and_eq_true] at h
    cases k with
    | zero => simp at hk; subst hk; exact ltB_mem h.1
    | succ k => exact closedN_mem h.2 k o (by simpa using hk)
def envIds : List (Nat × Val) → List Nat
  | [] => []
  | (_, v) :: r => v.ids ++ envIds r
theorem envIds_get : ∀ {r : List (Nat × Val)} (t : Nat), ∀ i ∈ (get r t).ids, i ∈ envIds r
  | [], t, i, hi => by simp [get, Val.ids] at hi
  | (s, v) :: r, t, i, hi => by
    rw [get_cons] at hi
    simp only [envIds, List.mem_append]
    split at hi
    · exact .inl hi
    · exact .inr (envIds_get t i hi)

theorem take_ren {w : World} {C : Cz} {n : Nat} {v : Value} {x : Val} (h : RepV w C v x) (hx : ∀ i ∈ x.ids, i < n) : RepV w ⟨C.θ.take n, C.rg⟩ v x := by
  have := h.ren (C' := ⟨C.θ.take n, C.rg⟩) (f := id) rfl (fun i hi e he => by
    simp only [id]
    rw [List.getElem?_take, if_pos (hx i hi)]; exact he)
  have hid : ∀ (x : Val), x.ren id = x := by
    have hA : ∀ (a : AV), a.ren id = a := by
      intro a
      exact AV.rec (motive_1 := fun a => a.ren id = a) (motive_2 := fun l => AV.renL id l = l)
        (fun x => by rw [AV.ren]) (fun o k => by rw [AV.ren]; rfl) (fun o n => by rw [AV.ren]; rfl) (fun o n j s k => by rw [AV.ren]; rfl) (by rw [AV.ren]) (fun r sz rows => by rw [AV.ren]) (fun o => by rw [AV.ren]; rfl)
        (fun f a b h1 h2 => by rw [AV.ren, h1, h2]) (fun t x h => by rw [AV.ren, h]) (fun t l h => by rw [AV.ren, h]) (by rw [AV.renL]) (fun a l h1 h2 => by rw [AV.renL, h1, h2]) a
    intro x
    exact Val.rec (motive_1 := fun x => x.ren id = x) (motive_2 := fun l => Val.renL id l = l)
      (fun a => by rw [Val.ren, hA]) (fun l => by rw [Val.ren, renL_map, show (AV.ren id) = id from funext hA, List.map_id]) (fun vs h => by rw [Val.ren, h]) (by rw [Val.ren]) (by rw [Val.renL]) (fun a l h1 h2 => by rw [Val.renL, h1, h2]) x
  rw [hid] at this
  exact this


theorem takeL_ren {w : World} {C : Cz} {n : Nat} {vs : List Value} {as : List AV} (h : RepL w C vs as) (hx : ∀ i ∈ AV.idsL as, i < n) : RepL w ⟨C.θ.take n, C.rg⟩ vs as :=
  ⟨h.1, fun i v a h1 h2 => by
    have := take_ren (n := n) (RepV.c v a (h.2 i v a h1 h2)) (fun j hj => hx j (idsL_mem (List.mem_of_getElem? h2) j (by simpa [Val.ids] using hj)))
    exact c_of this⟩

/-- The first objects alone. -/
theorem trunc {w : World} {C : Cz} {σ τ : List AObj} (hI : Inv w C σ) {ξ : List AObj} (hσ : σ = τ ++ ξ) (hcl : closedN τ.length τ = true) :
    Inv w ⟨C.θ.take τ.length, C.rg⟩ τ ∧ (∀ {w0 : World} {C0 : Cz} {σ0 : List AObj}, σ0.length ≤ τ.length → Ext w0 C0 σ0 w C σ → C0.θ.length = σ0.length → Ext w0 C0 σ0 w ⟨C.θ.take τ.length, C.rg⟩ τ) := by
  have hlen := hI.len
  have hσl : τ.length ≤ σ.length := by rw [hσ]; simp
  have hget : ∀ (i : Nat) o, τ[i]? = some o → σ[i]? = some o := fun i o h => by rw [hσ, List.getElem?_append_left (List.getElem?_eq_some_iff.1 h).1]; exact h
  have hθ : ∀ (i : Nat) e, (C.θ.take τ.length)[i]? = some e → C.θ[i]? = some e := fun i e h => by
    rw [List.getElem?_take] at h
    split at h
    · exact h
    · cases h
  refine ⟨⟨by simp; omega, fun i o e h1 h2 => ?_, fun i o e b h1 h2 h3 h4 => hI.unrg i o e b (hget i o h1) h2 (hθ i e h3) h4, fun i j o p e f b h1 h2 h3 h4 h5 h6 h7 h8 => hI.apart i j o p e f b (hget i o h1) (hget j p h2) h3 h4 (hθ i e h5) (hθ j f h6) h7 h8, hI.rgs, hI.glb⟩, fun hl hX h0 => ?_⟩
  · have hk := hI.ok i o e (hget i o h1) (hθ i e h2)
    have hids := closedN_mem hcl i o h1
    cases o with
    | var cells =>
      obtain ⟨k1, b, cs, ty, k2, k3, k4⟩ := hk
      exact ⟨k1, b, cs, ty, k2, k3, takeL_ren k4 hids⟩
    | row t sz rows => exact hk
    | frz r cells => exact hk
    | mp k t es => exact hk
    | it m a b c =>
      obtain ⟨k1, b, k2, ⟨u, bm, k3, k4, k5⟩ | ⟨s, k3, k5⟩⟩ := hk
      · exact ⟨k1, b, k2, .inl ⟨u, bm, c_of (take_ren (RepV.c u m k3) (fun i hi => hids i (by simpa [Val.ids, AObj.ids] using hi))), k4, k5⟩⟩
      · exact ⟨k1, b, k2, .inr ⟨s, k3, k5⟩⟩
    | gone => trivial
  · refine ⟨hX.os, hX.tape, hX.output, hX.size, ⟨hX.le.rg, fun i e he => ?_⟩, hX.frame, fun b hb => ?_, hX.newrg⟩
    · obtain ⟨e', g1, g2⟩ := hX.le.θ i e he
      refine ⟨e', ?_, g2⟩
      show (C.θ.take τ.length)[i]? = some e'
      rw [List.getElem?_take, if_pos (by have := (List.getElem?_eq_some_iff.1 he).1; omega)]
      exact g1
    · obtain ⟨i, o, e, g1, g2, g3, g4⟩ := hb
      exact hX.lives b ⟨i, o, e, hget i o g1, g2, hθ i e g3, g4⟩

def dsIds : List Dfr → List Nat
  | [] => []
  | d :: l => AV.idsL d.args ++ dsIds l
theorem dsIds_mem : ∀ {l : List Dfr} {d : Dfr}, d ∈ l → ∀ i ∈ AV.idsL d.args, i ∈ dsIds l
  | x :: l, d, h, i, hi => by
    simp only [dsIds, List.mem_append]
    rcases List.mem_cons.1 h with rfl | h
    · exact .inl hi
    · exact .inr (dsIds_mem h i hi)

/-- S tells at least what I tells: fewer slots, fewer objects. -/
def Fits (S I : St) : Prop := fitsE I.env S.env ∧ S.n = I.n ∧ S.ds = I.ds ∧ (∃ ξ, S.σ = I.σ ++ ξ) ∧ (closedN I.σ.length I.σ && ltB I.σ.length (envIds I.env) && ltB I.σ.length (dsIds I.ds)) = true

theorem Fits.ok {w : World} {C : Cz} {a : Act} {S I : St} (h : Fits S I) (hI : Inv w C S.σ) (hE : EnvOk w C a S) :
    ∃ C', Inv w C' I.σ ∧ EnvOk w C' a I ∧ (∀ {w0 : World} {C0 : Cz} {σ0 : List AObj}, σ0.length ≤ I.σ.length → C0.θ.length = σ0.length → Ext w0 C0 σ0 w C S.σ → Ext w0 C0 σ0 w C' I.σ) := by
  obtain ⟨h1, h2, h3, ⟨ξ, h4⟩, h5⟩ := h
  simp only [Bool.and_eq_true] at h5
  obtain ⟨⟨c1, c2⟩, c3⟩ := h5
  obtain ⟨t1, t2⟩ := trunc hI h4 c1
  refine ⟨_, t1, ⟨hE.size.trans h2, fun t => ?_, by rw [← h3]; exact hE.dlen, fun i d x g1 g2 => ?_⟩, fun q1 q2 q3 => t2 q1 q3 q2⟩
  · rcases fitsE_get h1 t with e | e
    · rw [e]; exact .junk _
    · refine take_ren ?_ (fun i hi => ltB_mem c2 i (envIds_get t i hi))
      rw [e]; exact hE.env t
  · obtain ⟨cap, k1, k2⟩ := hE.ds i d x g1 (by rw [h3]; exact g2)
    exact ⟨cap, k1, takeL_ren k2 (fun j hj => ltB_mem c3 j (dsIds_mem (List.mem_of_getElem? g2) j hj))⟩

/-- A loop: at its head the state is one of a family. -/
theorem AW.loop' {ρ : Nat} {c : Code} {S : St} {K : AEx → St → Prop} {ι : Type} (I : ι → St) (μ : ι → Nat) (i0 : ι) (hS : ∀ i, S.σ.length ≤ (I i).σ.length) (h0 : Fits S (I i0))
    (round : ∀ i, AW P T ρ c (I i) (athen (fun S' => ∃ j, Fits S' (I j) ∧ μ j < μ i) K)) : AW P T ρ (.loop c) S K :=
  ⟨fun w C a hI hE => by
    obtain ⟨C1, i1, e1, x1⟩ := h0.ok hI hE
    intro b k cs
    have key : ∀ n i, μ i = n → ∀ (a : Act) (w1 : World) (C1 : Cz), Inv w1 C1 (I i).σ → EnvOk w1 C1 a (I i) → Ext w C S.σ w1 C1 (I i).σ →
        ∃ e a' w', Post w C S.σ K e a' w' ∧ Arrives P (lone (b.at a (.code c :: .inLoop c :: k)) cs w1) b k cs e a' w' := by
      intro n
      induction n using Nat.strongRecOn with
      | _ n ih =>
        intro i hn a w1 C1 hI1 hE1 hX1
        obtain ⟨e, a₁, w₁, ⟨z, S', C', hk, hx, hi', he', hx'⟩, harr⟩ := (round i).out w1 C1 a hI1 hE1 b (.inLoop c :: k) cs
        cases e <;> cases z <;> first | (exact hx.elim) | skip
        · obtain ⟨j, hfit, hlt⟩ := hk
          obtain ⟨C2, i2, e2, x2⟩ := hfit.ok hi' he'
          obtain ⟨e, a₂, w₂, hq₂, harr₂⟩ := ih (μ j) (hn ▸ hlt) j rfl a₁ w₁ C2 i2 e2 (x2 (hS j) hI.len (hX1.trans hx'))
          exact ⟨e, a₂, w₂, hq₂, .of_steps (Steps.trans harr (.one step_inLoop)) harr₂⟩
        · exact ⟨_, a₁, w₁, ⟨_, S', C', hk, hx, hi', he', hX1.trans hx'⟩, .pass (x := .inLoop c) rfl (fun _ _ => .inl (by simp)) harr⟩
        · exact ⟨_, a₁, w₁, ⟨_, S', C', hk, hx, hi', he', hX1.trans hx'⟩, .pass (x := .inLoop c) rfl (fun _ _ => .inl (by simp)) harr⟩
        · exact ⟨_, a₁, w₁, ⟨_, S', C', hk, hx, hi', he', hX1.trans hx'⟩, .pass (x := .inLoop c) rfl (fun _ _ => .inl (by simp)) harr⟩
    obtain ⟨e, a', w', hq, harr⟩ := key _ i0 rfl a w C1 i1 e1 (x1 (hS i0) hI.len (.refl w C _))
    exact ⟨e, a', w', hq, .of_steps (.one step_loop) harr⟩⟩
theorem AW.loop {ρ : Nat} {c : Code} {S : St} {K : AEx → St → Prop} {ι : Type} (I : ι → St) (μ : ι → Nat) (i0 : ι) (N : Nat) (hN : ∀ i, (I i).σ.length = N) (hS : S.σ.length ≤ N) (h0 : Fits S (I i0))
    (round : ∀ i, AW P T ρ c (I i) (athen (fun S' => ∃ j, Fits S' (I j) ∧ μ j < μ i) K)) : AW P T ρ (.loop c) S K :=
  AW.loop' I μ i0 (fun i => by rw [hN]; exact hS) h0 round
/-! ### Functions -/
/-- The first values of the result variables. -/
def aResults (T : Tab) (env : List (Nat × Val)) (σ : List AObj) : List ResultVar → (List Val → Prop) → Prop
  | [], K => K []
  | .tmp t :: r, K => aResults T env σ r (fun vs => K (get env t :: vs))
  | .cell a t :: r, K => aLoad T σ t (get env a) (fun v _ => aResults T env σ r (fun vs => K (v :: vs)))

def oneOf : List Val → Val
  | [v] => v
  | vs => .tup vs

def maxIds : Nat → List Nat → Nat
  | m, [] => m
  | m, i :: l => maxIds (bif Nat.ble (i + 1) m then m else i + 1) l
/-- The objects that a result reaches by number, and those that were there: the rest is left. -/
def aRet (R : Out → List AObj → Prop) (n : Nat) (ys : List Val) (σ : List AObj) : Prop :=
  forceN (maxIds n (Val.idsL ys)) fun m => bif ltB m (Val.idsL ys) && closedN m (σ.take m) && Nat.ble m σ.length && Nat.ble n m then R (.ret (oneOf ys)) (σ.take m) else R (.ret (oneOf ys)) σ

def aPan (R : Out → List AObj → Prop) (n : Nat) (a : AV) (σ : List AObj) : Prop :=
  bif ltB n a.ids && closedN n (σ.take n) && Nat.ble n σ.length then R (.pan a) (σ.take n) else R (.pan a) σ

/-- A body without deferred calls ends. -/
def afin (T : Tab) (ρ f : Nat) (rs : List ResultVar) (n : Nat) (R : Out → List AObj → Prop) : AEx → St → Prop
  | .normal, ⟨_, env, σ, []⟩ => aResults T env σ rs (fun vs => aArgs ρ vs (T.rsl f) σ (fun ys σ' => aRet R n ys σ'))
  | .ret, ⟨_, env, σ, []⟩ => aResults T env σ rs (fun vs => aArgs ρ vs (T.rsl f) σ (fun ys σ' => aRet R n ys σ'))
  | .pan a, ⟨_, env, σ, []⟩ => frz1 ρ σ a none (fun d σ' => aPan R n (.d d) σ')
  | _, _ => False

theorem take_app {α : Type} (l : List α) (n : Nat) : l = l.take n ++ l.drop n := (List.take_append_drop n l).symm

theorem aRet_ok {w : World} {C : Cz} {σ : List AObj} (hI : Inv w C σ) {ys : List Val} {n : Nat} {R : Out → List AObj → Prop} (hk : aRet R n ys σ) {v : Value} (hv : RepV w C v (oneOf ys)) {w0 : World} {C0 : Cz} {σ0 : List AObj} (hn : σ0.length = n)
    (h0 : C0.θ.length = σ0.length) (hX : Ext w0 C0 σ0 w C σ) : ∃ o σ' C', R o σ' ∧ Inv w C' σ' ∧ Ext w0 C0 σ0 w C' σ' ∧ OutOk w C' (.returned v) o := by
  unfold aRet at hk
  rw [forceN_eq] at hk
  generalize maxIds n (Val.idsL ys) = m at hk
  cases hb : ltB m (Val.idsL ys) && closedN m (σ.take m) && Nat.ble m σ.length && Nat.ble n m with
  | false => rw [hb] at hk; exact ⟨_, σ, C, hk, hI, hX, v, rfl, hv⟩
  | true =>
    rw [hb] at hk
    simp only [Bool.and_eq_true] at hb
    obtain ⟨⟨⟨b1, b2⟩, b3⟩, b4⟩ := hb
    have hle : m ≤ σ.length := Nat.le_of_ble_eq_true b3
    have hle2 : n ≤ m := Nat.le_of_ble_eq_true b4
    have hl : (σ.take m).length = m := by rw [List.length_take]; omega
    obtain ⟨t1, t2⟩ := trunc hI (take_app σ m) (by rw [hl]; exact b2)
    refine ⟨_, σ.take m, _, hk, t1, t2 (by omega) hX h0, v, rfl, take_ren hv (fun i hi => ?_)⟩
    rw [hl]
    refine ltB_mem b1 i ?_
    unfold oneOf at hi
    split at hi
    · simpa [Val.idsL] using hi
    · simpa [Val.ids] using hi

def resV (tmps : Array Value) : ResultVar → Sem Value
  | .tmp t => pure (tmps.getD t undef)
  | .cell x t => do loadVar t (← asAddr (tmps.getD x undef))

include HT in
theorem aResults_ok {w : World} {C : Cz} {σ : List AObj} (hI : Inv w C σ) {a : Act} {S : St} (hE : EnvOk w C a S) : ∀ (rs : List ResultVar) {K : List Val → Prop}, aResults T S.env σ rs K →
    ∃ vs us, K vs ∧ (rs.mapM (resV a.tmps)).run P w = Result.ok us w ∧ RepVs w C us vs
  | [], K, hk => ⟨[], [], hk, by simp, ⟨rfl, fun i v x h => by simp at h⟩⟩
  | .tmp t :: r, K, hk => by
    obtain ⟨vs, us, k1, k2, k3⟩ := aResults_ok hI hE r hk
    refine ⟨_, a.tmps.getD t undef :: us, k1, ?_, .cons (hE.env t) k3⟩
    rw [List.mapM_cons]
    simp only [resV, Sem.run_bind, Sem.run_pure, Result.andThen_ok, k2]
  | .cell x t :: r, K, hk => by
    simp only [aResults] at hk
    obtain ⟨v, y, h1, h2, h3⟩ := ok_loadS (P := P) HT hI (hE.env x) (K := fun v _ => aResults T S.env σ r (fun vs => K (v :: vs))) hk
    obtain ⟨vs, us, k1, k2, k3⟩ := aResults_ok hI hE r h2
    refine ⟨_, v :: us, k1, ?_, .cons h3 k3⟩
    rw [List.mapM_cons]
    have hp : ∃ ad, a.tmps.getD x undef = .pointer (some ad) := by
      unfold aLoad at hk
      split at hk
      · exact hk.elim
      · split at hk
        · rename_i hx
          have hr := hE.env x
          rw [hx] at hr
          have hr := c_of hr
          generalize a.tmps.getD x undef = z at hr
          cases hr; exact ⟨_, rfl⟩
        · rename_i hx
          have hr := hE.env x
          rw [hx] at hr
          have hr := repA_d (c_of hr)
          generalize a.tmps.getD x undef = z at hr
          cases hr; exact ⟨_, rfl⟩
        · exact hk.elim
    have : (resV a.tmps (.cell x t)).run P w = .ok v w := by
      obtain ⟨ad, hp⟩ := hp
      rw [hp] at h1
      simp only [resV, hp, asAddr, Sem.run_bind, Sem.run_pure, Result.andThen_ok]
      simpa only [Instr.loadAt, Instr.sureAddr, Sem.run_bind, Sem.run_pure, Result.andThen_ok] using h1
    simp only [Sem.run_bind, this, Sem.run_pure, Result.andThen_ok, k2]

theorem one_tuple {w : World} {C : Cz} {us : List Value} {ys : List Val} (h : RepVs w C us ys) : RepV w C (if h : us.toArray.size = 1 then us.toArray[0] else .tuple us.toArray) (oneOf ys) := by
  obtain ⟨hl, hr⟩ := h
  match us, ys, hl with
  | [], [], _ => exact .tup _ _ rfl (fun i v x h1 h2 => by simp at h2)
  | [u], [y], _ => exact hr 0 u y rfl rfl
  | u1 :: u2 :: us, y1 :: y2 :: ys, hl =>
    have : (u1 :: u2 :: us).toArray.size ≠ 1 := by simp
    rw [dif_neg this]
    exact .tup _ _ (by simpa using hl) (fun i v x h1 h2 => hr i v x (by simpa using h1) h2)

theorem results_run {fn : Func} {tmps : Array Value} {w : World} {us : List Value} (h : (fn.results.toList.mapM (resV tmps)).run P w = Result.ok us w) :
    (results fn tmps).run P w = .ok (if h : us.toArray.size = 1 then us.toArray[0] else .tuple us.toArray) w := by
  unfold results
  have e : (fun x : ResultVar => (match x with | .tmp t => (pure (tmps.getD t undef) : Sem Value) | .cell a t => do loadVar t (← asAddr (tmps.getD a undef)))) = resV tmps := by
    funext x; cases x <;> rfl
  simp only [Sem.run_bind, Array.mapM_eq_mapM_toList]
  have : (fun x : ResultVar => (match x with | .tmp t => (pure (tmps.getD t undef) : Sem Value) | .cell a t => do loadVar t (← asAddr (tmps.getD a undef)))) = resV tmps := e
  erw [this]
  simp [h]

def env0 : Nat → List Val → List (Nat × Val)
  | _, [] => []
  | i, x :: xs => (i, x) :: env0 (i + 1) xs
theorem env0_get : ∀ (xs : List Val) (i t : Nat), get (env0 i xs) t = if i ≤ t then (xs[t - i]?).getD .junk else .junk
  | [], i, t => by simp [env0, get]
  | x :: xs, i, t => by
    rw [env0, get_cons, env0_get xs (i + 1) t]
    by_cases e : i = t
    · subst e; simp
    · rw [if_neg e]
      by_cases h : i + 1 ≤ t
      · rw [if_pos h, if_pos (by omega), show t - i = (t - (i + 1)) + 1 by omega, List.getElem?_cons_succ]
      · rw [if_neg h, if_neg (by omega)]

def start (fn : Func) (args : List Val) (σ : List AObj) : St := ⟨fn.ntmps, env0 0 args, σ, []⟩

theorem start_env {w : World} {C : Cz} {fn : Func} {args : List Val} {vs : Array Value} (h : RepVs w C vs.toList args) (hn : args.length ≤ fn.ntmps) (σ : List AObj) :
    EnvOk w C { tmps := vs ++ Array.replicate (fn.ntmps - vs.size) undef, defers := [] } (start fn args σ) := by
  have hl := h.1
  simp at hl
  refine ⟨by simp [start]; omega, fun t => ?_, rfl, fun i d x h1 h2 => by simp at h1⟩
  simp only [start, env0_get, Nat.zero_le, if_true, Nat.sub_zero]
  cases hx : args[t]? with
  | none => exact .junk _
  | some x =>
    have ht : t < vs.size := by have := (List.getElem?_eq_some_iff.1 hx).1; omega
    have : (vs ++ Array.replicate (fn.ntmps - vs.size) undef).getD t undef = vs[t] := by
      rw [Array.getD_eq_getD_getElem?, Array.getElem?_append_left ht, Array.getElem?_eq_getElem ht]; rfl
    rw [this]
    exact h.2 t _ x (by rw [Array.getElem?_toList]; exact Array.getElem?_eq_getElem ht) hx

include HT in
/-- A function without deferred calls: by its body. -/
theorem ACall.body {ρ f : Nat} {fn : Func} {c : Code} {N : Nat} {E : List (Nat × Val)} {rs : List ResultVar} (hf : P.funcs[f]? = some fn) (hb : fn.body = some c) (hN : fn.ntmps = N) (hr : fn.results.toList = rs)
    {args : List Val} {σ : List AObj} {R : Out → List AObj → Prop} (he : env0 0 args = E) (hn : Nat.ble args.length N = true)
    (h : AW P T ρ c ⟨N, E, σ, []⟩ (afin T ρ f rs σ.length R)) : ACall P f args σ R :=
  ⟨fun w C vs hI hv => by
    subst hN; subst hr; subst he
    refine calls_of_wp hf hb (wp_mono (h.out w C _ hI (start_env hv (Nat.le_of_ble_eq_true hn) σ)) ?_)
    rintro e a' w' ⟨x, ⟨n', env', σ', ds'⟩, C', hk, hx, hI', hE', hX⟩
    have fin : ds' = [] → aResults T env' σ' fn.results.toList (fun vs => aArgs ρ vs (T.rsl f) σ' (fun ys σ'' => aRet R σ.length ys σ'')) →
        a'.defers = [] ∧ ∃ v, (results fn a'.tmps).run P w' = .ok v w' ∧ ∃ o σ' C', R o σ' ∧ Inv w' C' σ' ∧ Ext w C σ w' C' σ' ∧ OutOk w' C' (.returned v) o := by
      intro hds hk2
      subst hds
      have hd0 : a'.defers = [] := List.eq_nil_of_length_eq_zero (by rw [hE'.dlen]; rfl)
      obtain ⟨vs', us, k1, k2, k3⟩ := aResults_ok HT hI' hE' _ hk2
      obtain ⟨C2, ys, σ2, q1, q2, q3, q4, q5⟩ := aArgs_ok ρ hI' k3 k1
      exact ⟨hd0, _, results_run k2, aRet_ok q3 q1 (one_tuple q5) rfl hI.len (hX.trans q4)⟩
    cases ds' with
    | cons _ _ => cases x <;> exact hk.elim
    | nil =>
    cases e <;> cases x <;> first | (exact hx.elim) | skip
    · exact fin rfl hk
    · exact hk.elim
    · exact fin rfl hk
    · obtain ⟨v, rfl, hr⟩ := hx
      simp only [afin] at hk
      have hd0 : a'.defers = [] := List.eq_nil_of_length_eq_zero (by rw [hE'.dlen]; rfl)
      obtain ⟨C2, d, σ2, q1, q2, q3, q4, q5⟩ := frz1_ok hI' ρ hr hk
      refine ⟨hd0, ?_⟩
      unfold aPan at q1
      cases hb : ltB σ.length (AV.d d).ids && closedN σ.length (σ2.take σ.length) && Nat.ble σ.length σ2.length with
      | false => rw [hb] at q1; exact ⟨_, σ2, C2, q1, q3, hX.trans q4, v, rfl, .d _ _ q5⟩
      | true =>
        rw [hb] at q1
        simp only [Bool.and_eq_true] at hb
        obtain ⟨⟨b1, b2⟩, b3⟩ := hb
        have hle : σ.length ≤ σ2.length := Nat.le_of_ble_eq_true b3
        have hl : (σ2.take σ.length).length = σ.length := by rw [List.length_take]; omega
        obtain ⟨t1, t2⟩ := trunc q3 (take_app σ2 σ.length) (by rw [hl]; exact b2)
        exact ⟨_, _, _, q1, t1, t2 (by omega) (hX.trans q4) hI.len, v, rfl, .d _ _ q5⟩⟩

end
end Go.Proofs.YtmaokphbfjpodaaGreatDoor.E

/- The engine, part 17: regions whose order is drawn. No conditions. -/
set_option linter.unusedVariables false
set_option linter.unusedSimpArgs false
set_option linter.unusedSectionVars false
namespace Go.Proofs.YtmaokphbfjpodaaGreatDoor.E
open Go

/-! ### Computations that come to one value -/
def Det (F : (Val → Prop) → Prop) : Prop := ∀ K, F K → ∃ v, K v ∧ F (fun u => u = v)

theorem det_k (v : Val) : Det (fun K => K v) := fun K h => ⟨v, h, rfl⟩
theorem det_f : Det (fun _ => False) := fun K h => h.elim
theorem det_and {p : Prop} {F : (Val → Prop) → Prop} (h : Det F) : Det (fun K => p ∧ F K) := fun K ⟨hp, hk⟩ => by
  obtain ⟨v, h1, h2⟩ := h K hk
  exact ⟨v, h1, hp, h2⟩
theorem det_c {b : Bool} {F G : (Val → Prop) → Prop} (h : Det F) (g : Det G) : Det (fun K => cond b (F K) (G K)) := by cases b; exact g; exact h

theorem aCells_det (i : TI) (cs : List AV) : Det (aCells i cs) := by
  unfold aCells
  refine det_c ?_ ?_
  · split
    · exact det_k _
    · exact det_f
  · split
    · exact det_k _
    · exact det_f
theorem aNil_det (x : Val) : Det (aNil x) := by
  unfold aNil; split <;> first | exact det_k _ | exact det_f
theorem aUn_det (op : UnOp) (x : Val) : Det (aUn op x) := by
  unfold aUn; split <;> first | exact det_k _ | exact det_f
theorem aLen_det (x : Val) : Det (aLen x) := by
  unfold aLen; split <;> first | exact det_k _ | exact det_f
theorem iBin_det (op : BinOp) (k : IntKind) (a b : Int) : Det (iBin op k a b) := by
  unfold iBin; split <;> first | exact det_k _ | exact det_and (det_k _) | exact det_f
theorem sBin_det (op : BinOp) (a b : ByteArray) : Det (sBin op a b) := by
  unfold sBin; split <;> first | exact det_k _ | exact det_and (det_k _) | exact det_f
theorem nBin_det (op : BinOp) (tk : TK) (x : Val) (cst : Bool) : Det (nBin op tk x cst) := by
  unfold nBin
  refine det_c ?_ det_f
  split
  · split <;> first | exact det_k _ | exact det_f
  · exact det_f
theorem aBin_det (T : Tab) (op : BinOp) (t : Nat) (x y : Val) (cst : Bool) : Det (aBin T op t x y cst) := by
  unfold aBin
  split
  · exact det_c (iBin_det _ _ _ _) det_f
  · exact sBin_det _ _ _
  · split
    · split <;> first | exact det_k _ | exact det_f
    · exact det_f
  · split
    · exact det_c (nBin_det _ _ _ _) det_f
    · exact det_f
theorem aEqA_det (T : Tab) (op : BinOp) (t : Nat) (xs ys : List AV) : Det (aEqA T op t xs ys) := by
  unfold aEqA
  repeat' (first | exact det_f | exact det_k _ | refine det_c ?_ det_f | split)
theorem aBinA_det (T : Tab) (op : BinOp) (t : Nat) (x y : Val) (cst : Bool) : Det (aBinA T op t x y cst) := by
  unfold aBinA
  split
  · exact aEqA_det _ _ _ _ _
  · exact aBin_det _ _ _ _ _ _
theorem aOff_det (x : Val) (n : Nat) : Det (aOff x n) := by
  unfold aOff; split <;> first | exact det_k _ | exact det_and (det_k _) | exact det_f
theorem aFieldAddr_det (T : Tab) (s : Nat) (x : Val) (f : Nat) : Det (aFieldAddr T s x f) := by
  unfold aFieldAddr
  split
  · split
    · split
      · exact aOff_det _ _
      · exact det_f
    · exact det_f
  · exact det_f
theorem aField_det (T : Tab) (s : Nat) (x : Val) (f : Nat) : Det (aField T s x f) := by
  unfold aField
  split
  · split
    · split
      · split
        · exact aCells_det _ _
        · exact det_f
      · exact det_f
    · exact det_f
  · exact det_f
theorem rows_det {r : Nat} {rows : List (List DV)} {n : Int} : Det (fun K => (0 ≤ n ∧ n < rows.length) ∧ ∀ row, rows[n.toNat]? = some row → K (.c (.d (.rp r row)))) := fun K ⟨h1, h2⟩ => by
  have hlt : n.toNat < rows.length := by omega
  have e := List.getElem?_eq_getElem hlt
  exact ⟨_, h2 _ e, h1, fun row' h' => by rw [e] at h'; cases h'; rfl⟩
theorem rowsW_det {k : Bool} {rows : List (List DV)} {n : Int} : Det (fun K => (0 ≤ n ∧ n < rows.length) ∧ ∀ row, rows[n.toNat]? = some row → K (.c (.d (.wrp k row)))) := fun K ⟨h1, h2⟩ => by
  have hlt : n.toNat < rows.length := by omega
  have e := List.getElem?_eq_getElem hlt
  exact ⟨_, h2 _ e, h1, fun row' h' => by rw [e] at h'; cases h'; rfl⟩
theorem aIndexAddr_det (T : Tab) (σ : List AObj) (t : Nat) (x ix : Val) : Det (aIndexAddr T σ t x ix) := by
  unfold aIndexAddr
  split
  · split
    · split
      · split
        · exact det_c rows_det det_f
        · exact det_c rows_det det_f
        · split
          · exact det_c (det_and (det_k _)) det_f
          · exact det_f
        · exact det_c rowsW_det det_f
        · exact det_f
      · exact det_f
    · split
      · split
        · exact det_and (aOff_det _ _)
        · exact det_f
      · exact det_f
    · exact det_f
  · exact det_f
theorem aPick_det (q : Bool) (x y : Val) : Det (aPick q x y) := by
  unfold aPick
  split
  · exact det_k _
  · exact det_c (det_k _) (det_k _)
theorem aFill_det (T : Tab) (place : Nat → Option (Nat × Nat)) : ∀ (ps : List (Nat × Val)) (cells : List AV), Det (fun K => aFill T place ps cells (fun cs => K (.agg cs)))
  | [], cells => det_k _
  | (f, x) :: r, cells => by
    simp only [aFill]
    split
    · refine det_c ?_ det_f
      split
      · exact aFill_det T place r _
      · exact det_f
    · exact det_f
theorem aBuild_det (T : Tab) (t : Nat) (ps : List (Nat × Val)) : Det (aBuild T t ps) := by
  unfold aBuild
  split
  · split
    · exact aFill_det _ _ _ _
    · split
      · exact aFill_det _ _ _ _
      · exact det_f
    · exact det_f
  · exact det_f
theorem aLoad_det (T : Tab) (σ : List AObj) (t : Nat) (x : Val) : Det (fun K => aLoad T σ t x (fun v _ => K v)) := by
  unfold aLoad
  split
  · exact det_f
  · split
    · split
      · exact aCells_det _ _
      · exact aCells_det _ _
      · exact det_f
    · exact aCells_det _ _
    · exact det_f
theorem aLoad_σ (T : Tab) (σ : List AObj) (t : Nat) (x : Val) (K : Val → List AObj → Prop) : aLoad T σ t x K = aLoad T σ t x (fun v _ => K v σ) := by
  unfold aLoad
  split
  · rfl
  · split
    · split <;> rfl
    · rfl
    · rfl

theorem aLoadR_det (T : Tab) (σ : List AObj) (t : Nat) (x : Val) : Det (fun K => aLoadR T σ t x (fun v _ => K v)) := by
  unfold aLoadR
  split
  · split
    · split
      · refine det_c ?_ det_f
        rintro K ⟨⟨h1, h2⟩, h3⟩
        have e := List.getElem?_eq_getElem h2
        obtain ⟨v, k1, k2⟩ := aCells_det _ _ _ (h3 _ e)
        exact ⟨v, k1, ⟨h1, h2⟩, fun row hr => by rw [e] at hr; cases hr; exact k2⟩
      · exact det_f
    · exact det_f
  · exact aLoad_det _ _ _ _
theorem aLoadR_σ (T : Tab) (σ : List AObj) (t : Nat) (x : Val) (K : Val → List AObj → Prop) : aLoadR T σ t x K = aLoadR T σ t x (fun v _ => K v σ) := by
  unfold aLoadR
  split
  · split
    · split <;> rfl
    · rfl
  · exact aLoad_σ _ _ _ _ _
theorem aNilRow_det (T : Tab) (σ : List AObj) (t o m : Nat) (y : Val) (v : Val) : Det (fun K => aNilRow T σ t o m y (K v)) := by
  unfold aNilRow
  split
  · split
    · split
      · exact det_and (det_k _)
      · exact det_f
    · exact det_f
  · exact det_f
theorem aBinS_det (T : Tab) (σ : List AObj) (op : BinOp) (t : Nat) (x y : Val) (cst : Bool) : Det (aBinS T σ op t x y cst) := by
  unfold aBinS
  split
  · split
    · exact aNilRow_det _ _ _ _ _ _ _
    · exact aNilRow_det _ _ _ _ _ _ _
    · exact det_f
  · exact aBinA_det _ _ _ _ _ _
/-! ### Slices of data: their making changes no object -/
def pureA : AV → Bool
  | .d _ => true
  | .emp => true
  | .full _ _ _ => true
  | .ifc _ (.d _) => true
  | _ => false
def pureV (x : Val) : Bool := match x with
  | .c a => pureA a
  | .agg l => l.all pureA
  | _ => false
theorem frz1_pure {ρ : Nat} {a : AV} (n : Option Nat) (h : pureA a = true) : ∃ x, ∀ (σ : List AObj) (K : DV → List AObj → Prop), frz1 ρ σ a n K = K x σ := by
  cases a with
  | d x => cases x with
    | nils => cases n with
      | none => exact ⟨_, fun σ K => rfl⟩
      | some sz =>
        cases hc : (Nat.beq ρ 4 && Nat.beq sz 2) with
        | true => exact ⟨.sl 1 sz [], fun σ K => by simp only [frz1, hc, cond_true]⟩
        | false => exact ⟨.sl ρ sz [], fun σ K => by simp only [frz1, hc, cond_false]⟩
    | _ => exact ⟨_, fun σ K => rfl⟩
  | emp => cases n with
    | none => exact ⟨_, fun σ K => rfl⟩
    | some sz => exact ⟨_, fun σ K => rfl⟩
  | full r sz rows => exact ⟨_, fun σ K => rfl⟩
  | ifc t y => cases y <;> first | exact ⟨_, fun σ K => rfl⟩ | cases h
  | _ => cases h
theorem frzL_pure {ρ : Nat} : ∀ (as : List AV) (ns : List (Option Nat)), as.all pureA = true → ∃ xs, ∀ (σ : List AObj) (K : List DV → List AObj → Prop), frzL ρ σ as ns K = K xs σ
  | [], ns, h => ⟨[], fun σ K => rfl⟩
  | a :: as, ns, h => by
    simp only [List.all_cons, Bool.and_eq_true] at h
    obtain ⟨x, hx⟩ := frz1_pure (ρ := ρ) ns.head?.join h.1
    obtain ⟨xs, hxs⟩ := frzL_pure (ρ := ρ) as ns.tail h.2
    exact ⟨x :: xs, fun σ K => by simp only [frzL, hx, hxs]⟩
theorem aParts_pure {ρ : Nat} {j : TI} : ∀ (ps : List (Nat × Val)), ps.all (fun p => pureV p.2) = true → (∃ qs, ∀ (σ : List AObj) (K : List (Nat × Val) → List AObj → Prop), aParts ρ j ps σ K = K qs σ) ∨ ∀ (σ : List AObj) (K : List (Nat × Val) → List AObj → Prop), aParts ρ j ps σ K = False
  | [], h => .inl ⟨[], fun σ K => rfl⟩
  | (f, x) :: ps, h => by
    simp only [List.all_cons, Bool.and_eq_true] at h
    have key : ∀ ys, x.cells = some ys → ys.all pureA = true := fun ys hy => by
      cases x <;> simp [Val.cells, pureV] at hy h
      · subst hy; simp [h.1]
      · subst hy; simpa using h.1
    cases hc : x.cells with
    | none => exact .inr fun σ K => by simp only [aParts, hc]
    | some ys =>
      obtain ⟨ds, hd⟩ := frzL_pure (ρ := ρ) ys j.nrm (key ys hc)
      rcases aParts_pure (ρ := ρ) (j := j) ps h.2 with ⟨qs, hq⟩ | hq
      · exact .inl ⟨(f, .agg (ds.map .d)) :: qs, fun σ K => by simp only [aParts, hc, hd, hq]⟩
      · exact .inr fun σ K => by simp only [aParts, hc, hd, hq]
theorem aFill_one (T : Tab) (place : Nat → Option (Nat × Nat)) : ∀ (ps : List (Nat × Val)) (cells : List AV), (∃ cs, ∀ K : List AV → Prop, aFill T place ps cells K = K cs) ∨ ∀ K : List AV → Prop, aFill T place ps cells K = False
  | [], cells => .inl ⟨cells, fun K => rfl⟩
  | (f, x) :: r, cells => by
    cases h1 : place f with
    | none => exact .inr fun K => by simp only [aFill, h1]
    | some y =>
      cases h2 : x.cells with
      | none => exact .inr fun K => by simp only [aFill, h1, h2]
      | some ys =>
        cases h3 : natEq ys.length y.2 with
        | false => exact .inr fun K => by simp only [aFill, h1, h2, h3, cond_false]
        | true =>
          cases h4 : splice y.1 ys cells with
          | none => exact .inr fun K => by simp only [aFill, h1, h2, h3, cond_true, h4]
          | some c' =>
            rcases aFill_one T place r c' with ⟨cs, h⟩ | h
            · exact .inl ⟨cs, fun K => by simp only [aFill, h1, h2, h3, cond_true, h4, h]⟩
            · exact .inr fun K => by simp only [aFill, h1, h2, h3, cond_true, h4, h]
theorem aBuildSlice_pure (T : Tab) (ρ t len : Nat) (ps : List (Nat × Val)) (h : ps.all (fun p => pureV p.2) = true) : (∃ v, ∀ (σ : List AObj) (K : Val → List AObj → Prop), aBuildSlice T ρ σ t len ps K = K v σ) ∨ ∀ (σ : List AObj) (K : Val → List AObj → Prop), aBuildSlice T ρ σ t len ps K = False := by
  cases h1 : T.ti t with
  | none => exact .inr fun σ K => by simp only [aBuildSlice, h1]
  | some i =>
    cases h2 : i.k with
    | sl e =>
      cases h3 : T.ti e with
      | none => exact .inr fun σ K => by simp only [aBuildSlice, h1, h2, h3]
      | some j =>
        cases h4 : (natEq j.sz 0 || decide (1000 < len) || decide (1000 < j.sz) || !(rOk ρ j.sz)) with
        | true => exact .inr fun σ K => by simp only [aBuildSlice, h1, h2, h3, h4, cond_true]
        | false =>
          cases len with
          | zero =>
            cases ps with
            | nil => exact .inl ⟨.c .emp, fun σ K => by simp only [aBuildSlice, h1, h2, h3, h4, cond_false]⟩
            | cons p ps => exact .inr fun σ K => by simp only [aBuildSlice, h1, h2, h3, h4, cond_false]
          | succ l =>
            rcases aParts_pure (ρ := ρ) (j := j) ps h with ⟨qs, hq⟩ | hq
            · rcases aFill_one T (fun k => some (k * j.sz, j.sz)) qs (zcells j ((l + 1) * j.sz)) with ⟨cs, hc⟩ | hc
              · cases h5 : allD cs with
                | none => exact .inr fun σ K => by simp only [aBuildSlice, h1, h2, h3, h4, cond_false, hq, hc, h5]
                | some ds =>
                  cases h6 : chunk j.sz (l + 1) ds with
                  | none => exact .inr fun σ K => by simp only [aBuildSlice, h1, h2, h3, h4, cond_false, hq, hc, h5, h6]
                  | some rows => exact .inl ⟨.c (.d (.sl ρ j.sz rows)), fun σ K => by simp only [aBuildSlice, h1, h2, h3, h4, cond_false, hq, hc, h5, h6]⟩
              · exact .inr fun σ K => by simp only [aBuildSlice, h1, h2, h3, h4, cond_false, hq, hc]
            · exact .inr fun σ K => by simp only [aBuildSlice, h1, h2, h3, h4, cond_false, hq]
    | _ => exact .inr fun σ K => by simp only [aBuildSlice, h1, h2]

/-- An operation that changes no object and comes to one value. -/
def loud (o : Oper) : Bool :=
  match o.op with
  | .move _ | .pick _ _ _ | .load _ _ | .nilCheck _ | .binOp _ _ _ _ _ | .unOp _ _ _ | .fieldAddr _ _ _ | .field _ _ _ | .indexAddr _ _ _ | .build _ _ | .buildSlice _ _ _ => false
  | .call c => match c.callee with
    | .builtin .len => false
    | _ => true
  | _ => true

section
variable {P : Program} {T : Tab}

theorem det_of {F : (Val → Prop) → Prop} (h : Det F) {σ : List AObj} {K : Val → List AObj → Prop} (hk : F (fun v => K v σ)) :
    ∃ v, K v σ ∧ F (fun u => u = v ∧ True) := by
  obtain ⟨v, h1, h2⟩ := h _ hk
  exact ⟨v, h1, by simpa using h2⟩

/-- A slice that is made within a drawn region is made of data. -/
def qok (env : List (Nat × Val)) (o : Oper) : Bool := match o.op with
  | .buildSlice _ _ ps => (ps.toList.map fun p => (p.1, ev env p.2)).all (fun p => pureV p.2)
  | .load _ x => match ev env x with
    | .c (.d (.wrp _ _)) => false
    | _ => true
  | _ => true
theorem aLoadW_of {T : Tab} {σ : List AObj} {t : Nat} {x : Val} (h : (match x with | .c (.d (.wrp _ _)) => false | _ => true) = true) (K : Val → List AObj → Prop) : aLoadW T σ t x K = aLoadR T σ t x K := by
  unfold aLoadW
  split
  · cases h
  · rfl
theorem quiet_det {ρ : Nat} {env : List (Nat × Val)} {σ : List AObj} {o : Oper} (ho : loud o = false) (hqk : qok env o = true) {K : Val → List AObj → Prop} {KD : Dfr → Prop} {KP : AV → List AObj → Prop}
    (hk : aop P T ρ env σ o K KD KP) : ∃ v, K v σ ∧ aop P T ρ env σ o (fun u τ => u = v ∧ τ = σ) (fun _ => False) (fun _ _ => False) := by
  unfold aop at hk ⊢
  unfold loud at ho
  split at ho <;> rename_i hop <;> simp only [hop] at hk ⊢
  · exact ⟨_, hk, rfl, trivial⟩
  · split at hk
    · exact det_of (aPick_det _ _ _) hk
    · exact hk.elim
  · have hq := hqk
    unfold qok at hq
    simp only [hop] at hq
    simp only [aLoadW_of hq] at hk ⊢
    rw [aLoadR_σ] at hk
    obtain ⟨v, h1, h2⟩ := det_of (aLoadR_det T σ _ _) (K := K) hk
    exact ⟨v, h1, by rw [aLoadR_σ]; simpa using h2⟩
  · exact det_of (aNil_det _) hk
  · exact det_of (aBinS_det _ _ _ _ _ _ _) hk
  · exact det_of (aUn_det _ _) hk
  · exact det_of (aFieldAddr_det _ _ _ _) hk
  · exact det_of (aField_det _ _ _ _) hk
  · exact det_of (aIndexAddr_det _ _ _ _ _) hk
  · exact det_of (aBuild_det _ _ _) hk
  · unfold qok at hqk
    simp only [hop] at hqk
    simp only [fK_eq] at hk ⊢
    rcases aBuildSlice_pure T ρ _ _ _ hqk with ⟨v, hv⟩ | hv
    · rw [hv] at hk
      exact ⟨v, hk, by rw [hv]; exact ⟨rfl, rfl⟩⟩
    · rw [hv] at hk; exact hk.elim
  · split at ho
    · rename_i hcal
      simp only [hcal, fK_eq] at hk ⊢
      unfold aBuiltin at hk ⊢
      split at hk
      · rename_i hb
        rename_i t x e1 e2
        simp only [e1, e2]
        exact det_of (F := fun K => cond (lenTy T t x) (aLen x K) False) (det_c (aLen_det _) det_f) hk
      · rename_i hb _ _; cases hb
      · rename_i hb _; cases hb
      · rename_i hb _; cases hb
      · rename_i hb _ _; cases hb
      · exact hk.elim
    · cases ho
  · cases ho

end
end Go.Proofs.YtmaokphbfjpodaaGreatDoor.E
