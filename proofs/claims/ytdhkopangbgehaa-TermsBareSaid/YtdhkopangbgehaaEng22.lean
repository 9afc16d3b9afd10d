/- The engine, part 22: the rule for drawn regions. No conditions. -/
import Derived.Test.YtdhkopangbgehaaEng21
set_option linter.unusedVariables false
set_option linter.unusedSimpArgs false
set_option linter.unusedSectionVars false
namespace Go.Proofs.Ytdhkopangbgehaa.E
open Go

section
variable {P : Program} {T : Tab} (HT : TabOk P T)
variable {ρ : Nat} {ops : Array Oper} {E0 : List (Nat × Val)} {w0 : World} {C0 : Cz} {σ0 : List AObj} {listed : Array Bool} {pend rest ap : List Nat} {n : Nat} {env : List (Nat × Val)} {σ : List AObj} {ds : List Dfr} {a : Act} {w : World} {C : Cz}

include HT in
theorem Sim.stepPend (hA : Apart ops) (H : Sim P T ρ ops E0 w0 C0 σ0 listed pend rest ap n env σ ds a w C) {i : Nat} (hi : i ∈ pend) {o : Oper} (ho : ops[i]? = some o) (hb : ∀ m, m ∈ pend ∨ m ∈ rest → aft ops m i = false)
    {next : Act → World → Prop} {Q : Exit → Act → World → Prop}
    (hn : ∀ a' w' C', Sim P T ρ ops E0 w0 C0 σ0 (listed.setIfInBounds i true) (pend.erase i) rest ap n env σ ds a' w' C' → next a' w') : wpOp P ops Q i next a w := by
  have hr := H.reads hA ho hb
  obtain ⟨⟨v, hv, hc⟩, _⟩ := H.pok i hi o ho
  obtain ⟨_, hdl⟩ := H.pq i hi o ho
  unfold wpOp
  simp only [ho]
  rcases hc with ⟨hw, rfl⟩ | ⟨hw, hq, hop⟩
  · have hw' : Region.wanted o (yielded ops a.tmps) = false := wanted_of H.hE ((wantA_same hr).trans hw)
    rw [if_neg (by rw [hw']; decide)]
    exact hn _ _ C (H.pop hi ho hv H.hI (H.hE.putE hdl rep_undef) (.refl w C σ))
  · have hw' : Region.wanted o (yielded ops a.tmps) = true := wanted_of H.hE ((wantA_same hr).trans hw)
    rw [if_pos hw']
    left
    rw [← aop_congr (ev_same fun t ht => hr t (by simp [E.reads, ht]))] at hop
    refine aop_ok HT ρ (S := ⟨n, mask ops pend env, σ, ds⟩) H.hI H.hE hop (fun u w' C' x σ' hx h2 h3 h4 => ?_) (fun d x hx _ => hx.elim) (fun u x w' C' σ' hx _ _ _ => hx.elim)
    obtain ⟨rfl, rfl⟩ := hx
    exact hn _ _ C' (H.pop hi ho hv h2 ((H.hE.mono h3.le).putE hdl h4) h3)

/-- The head of the rest, a loud one, is done. -/
theorem Sim.stepLoud (hA : Apart ops) {i : Nat} {r : List Nat} (H : Sim P T ρ ops E0 w0 C0 σ0 listed pend (i :: r) ap n env σ ds a w C) {o : Oper} (ho : ops[i]? = some o) (hb : ∀ j ∈ pend, aft ops j i = false) {v : Val} {ap' : List Nat} {σ' : List AObj}
    {a' : Act} {w' : World} {C' : Cz} (hI : Inv w' C' σ') (hE : EnvOk w' C' a' ⟨n, putE (mask ops pend env) o.dst v, σ', ds⟩) (hX : Ext w C σ w' C' σ')
    (hp : ∀ j ∈ pend, ∀ oj, ops[j]? = some oj → Pend P T ρ ops (putE env o.dst v) σ' oj ∧ (wantA ops (putE env o.dst v) oj = some true → j ∈ ap')) :
    Sim P T ρ ops E0 w0 C0 σ0 (listed.setIfInBounds i true) pend r ap' n (putE env o.dst v) σ' ds a' w' C' := by
  have hnd := List.nodup_append.1 H.nd
  have hip : i ∉ pend := fun h => hnd.2.2 i h i (by simp) rfl
  have hir : i ∉ r := (List.nodup_cons.1 hnd.2.1).1
  obtain ⟨r1, r2⟩ := resp_head H.rsp
  refine ⟨by simp [H.size], fun j hj => ?_, fun j hj => H.lt j (hj.imp id (by simp +contextual)), ?_, r2, ?_, hI, hE.weak fun t => ?_, H.hX.trans hX, hp, H.pq, ?_, fun t => ?_⟩
  · rw [getD_set H.size hj]
    split
    · rename_i e; subst e
      simp [hip, hir]
    · rename_i e
      rw [H.lst j hj]
      simp [e]
  · exact List.nodup_append.2 ⟨hnd.1, (List.nodup_cons.1 hnd.2.1).2, fun x hx y hy => hnd.2.2 x hx y (by simp [hy])⟩
  · have := H.gd
    simp only [good, Bool.and_eq_true] at this
    exact this.2
  · rcases mask_get (ops := ops) (env := putE env o.dst v) (t := t) (l := pend) with ⟨_, h2⟩ | ⟨h1, h2⟩
    · exact .inl h2
    · right
      rw [h2, putE_get, putE_get]
      split
      · rfl
      · rcases mask_get (ops := ops) (env := env) (t := t) (l := pend) with ⟨⟨j, h3, h4⟩, _⟩ | ⟨_, h3⟩
        · exact absurd h4 (h1 j h3)
        · exact h3.symm
  · intro j m hj hjr ha hm
    by_cases e : j = i
    · subst e
      have := r1 m (by simp [hm])
      rw [ha] at this; cases this
    · exact H.cl j m hj (by simp [e, hjr]) ha (by simp [hm])
  · rcases H.e0 t with e | ⟨e1, e2⟩
    · exact .inl e
    · exact .inr ⟨e1, by rw [putE_get, if_neg (e1 i o ho), e2]⟩

theorem unreq_mem {i : Nat} : ∀ {l : List Nat} {j : Nat}, j ∈ l → aft ops j i = false → j ∈ unreq ops i l
  | x :: l, j, hj, ha => by
    simp only [unreq]
    rcases List.mem_cons.1 hj with rfl | hj
    · rw [ha]; simp
    · cases aft ops x i
      · simp [unreq_mem hj ha]
      · simpa using unreq_mem hj ha

theorem Sim.ready_lt {j : Nat} (h : j ∈ Region.ready .any ops listed) : j < ops.size := by
  obtain ⟨_, o, ho, _⟩ := mem_ready.1 h
  exact (Array.getElem?_eq_some_iff.1 ho).1

theorem getD_tf {l : Array Bool} {j : Nat} (h : j < l.size) : l.getD j true = l.getD j false := by simp [Array.getD, h]

/-- What is ready waits for nothing. -/
theorem Sim.ready_free (H : Sim P T ρ ops E0 w0 C0 σ0 listed pend rest ap n env σ ds a w C) {i : Nat} (hi : i ∈ Region.ready .any ops listed) : ∀ m, m ∈ pend ∨ m ∈ rest → aft ops m i = false := by
  intro m hm
  obtain ⟨_, o, ho, hall⟩ := mem_ready.1 hi
  cases h : aft ops m i with
  | false => rfl
  | true =>
    obtain ⟨o', ho', e, he, hbd, hem⟩ := aft_mem h
    rw [ho] at ho'; cases ho'
    have h1 := hall e he hbd
    rw [hem] at h1
    have h2 := (H.lst m (H.lt m hm)).2 hm
    rw [getD_tf (by rw [H.size]; exact H.lt m hm), h1] at h2; cases h2

/-- While something is left, something is ready. -/
theorem Sim.some_ready (H : Sim P T ρ ops E0 w0 C0 σ0 listed pend rest ap n env σ ds a w C) (hB : ∀ j oj, ops[j]? = some oj → ∀ e ∈ oj.after, Region.binds .any e = true → e.on < j) :
    ∀ j, j ∈ pend ∨ j ∈ rest → Region.ready .any ops listed ≠ [] := by
  intro j
  induction j using Nat.strongRecOn with
  | _ j ih =>
    intro hj
    have hlt := H.lt j hj
    obtain ⟨o, ho⟩ : ∃ o, ops[j]? = some o := ⟨_, Array.getElem?_eq_getElem hlt⟩
    by_cases hall : ∀ e ∈ o.after, Region.binds .any e = true → listed.getD e.on false = true
    · intro hnil
      have : j ∈ Region.ready .any ops listed := mem_ready.2 ⟨(H.lst j hlt).2 hj, o, ho, hall⟩
      rw [hnil] at this; cases this
    · simp only [Classical.not_forall] at hall
      obtain ⟨e, he, hb, hf⟩ := hall
      have hl := hB j o ho e he hb
      refine ih e.on hl ((H.lst e.on (by omega)).1 ?_)
      rw [getD_tf (by rw [H.size]; omega)]
      simpa using hf

include HT in
theorem sim_ok (hA : Apart ops) (hB : ∀ j oj, ops[j]? = some oj → ∀ e ∈ oj.after, Region.binds .any e = true → e.on < j) {K : St → Prop} {KP : AV → St → Prop} {Q : Exit → Act → World → Prop}
    (hn : ∀ S' w' C' a', K S' → Inv w' C' S'.σ → EnvOk w' C' a' S' → Ext w0 C0 σ0 w' C' S'.σ → Q .normal a' w')
    (hp : ∀ v x S' w' C' a, KP x S' → Inv w' C' S'.σ → EnvOk w' C' a S' → Ext w0 C0 σ0 w' C' S'.σ → RepA w' C' v x → Q (.panic [{ v := v, recovered := false }]) a w') :
    ∀ (fuel : Nat) {listed : Array Bool} {pend rest ap : List Nat} {env : List (Nat × Val)} {σ : List AObj} {a : Act} {w : World} {C : Cz}, Sim P T ρ ops E0 w0 C0 σ0 listed pend rest ap n env σ ds a w C →
      fuel = pend.length + rest.length → arunD P T ρ ops E0 rest ap ⟨n, env, σ, ds⟩ K KP → wpAny P .any ops Q fuel listed a w
  | 0, listed, pend, rest, ap, env, σ, a, w, C, H, hf, hk => by
    have e1 : pend = [] := List.eq_nil_of_length_eq_zero (by omega)
    have e2 : rest = [] := List.eq_nil_of_length_eq_zero (by omega)
    subst e1; subst e2
    refine ⟨?_, hn _ w C a hk H.hI H.hE H.hX⟩
    cases hr : Region.ready .any ops listed with
    | nil => rfl
    | cons j _ =>
      have hj : j ∈ Region.ready .any ops listed := by rw [hr]; simp
      have := (H.lst j (Sim.ready_lt hj)).1 (mem_ready.1 hj).1
      simp at this
  | fuel + 1, listed, pend, rest, ap, env, σ, a, w, C, H, hf, hk => by
    refine ⟨fun hr => ?_, fun i hi => ?_⟩
    · exfalso
      obtain ⟨j, hj⟩ : ∃ j, j ∈ pend ∨ j ∈ rest := by
        cases pend with
        | cons j _ => exact ⟨j, .inl (by simp)⟩
        | nil => cases rest with
          | cons j _ => exact ⟨j, .inr (by simp)⟩
          | nil => simp at hf
      exact H.some_ready hB j hj hr
    · have hin := (H.lst i (Sim.ready_lt hi)).1 (mem_ready.1 hi).1
      obtain ⟨pend, rest, ap, env, H, hk, hl, hb, hc⟩ := H.advance hA rest hk hin (H.ready_free hi)
      rw [← hl] at hf
      rcases hc with hip | ⟨r, o, rfl, ho, hlo⟩
      · obtain ⟨o, ho⟩ : ∃ o, ops[i]? = some o := ⟨_, Array.getElem?_eq_getElem (Sim.ready_lt hi)⟩
        refine H.stepPend HT hA hip ho hb (fun a' w' C' H' => sim_ok hA hB hn hp fuel H' ?_ hk)
        rw [List.length_erase_of_mem hip]
        have := List.length_pos_of_mem hip
        omega
      · simp only [arunD] at hk
        split at hk
        · rename_i _ _ o' n' env' σ' ds' ho' heq
          cases heq
          rw [ho] at ho'; cases ho'
          obtain ⟨env1, he1, hc⟩ := stepD_cases hk
          have H1 := H.told he1
          have hbp : ∀ j ∈ pend, aft ops j i = false := fun j hj => hb j (.inl hj)
          have hr := H1.reads hA ho hb
          have hnr := H1.noread hA ho (.inr hbp)
          have hnd := List.nodup_append.1 H1.nd
          have hip : i ∉ pend := fun h => hnd.2.2 i h i (by simp) rfl
          have pkeep : ∀ (v : Val) (j : Nat), j ∈ pend → ∀ oj, ops[j]? = some oj → (∀ t ∈ reads ops oj, get env1 t = get (putE env1 o.dst v) t) ∧ (∀ d, oj.dst = some d → get (putE env1 o.dst v) d = get env1 d) := fun v j hj oj hoj =>
            ⟨fun t ht => by
              rw [putE_get]
              split
              · rename_i e; exact absurd ht (hnr j hj oj hoj t e)
              · rfl, fun d hd => by
              rw [putE_get]
              split
              · rename_i e
                rcases (hA i j o oj d ho hoj e).1 with e' | e'
                · subst e'; exact absurd hj hip
                · exact absurd hd e'
              · rfl⟩
          unfold wpOp
          simp only [ho]
          rcases hc with ⟨hw, hgo⟩ | ⟨hw, hput⟩
          · have hw' : Region.wanted o (yielded ops a.tmps) = true := wanted_of H1.hE ((wantA_same hr).trans hw)
            rw [if_pos hw']
            left
            unfold goD at hgo
            rw [hlo] at hgo
            simp only [cond_true] at hgo
            rw [← aop_congr (ev_same fun t ht => hr t (by simp [reads, ht]))] at hgo
            refine aop_ok HT ρ (S := ⟨n, mask ops pend env1, σ, ds⟩) H1.hI H1.hE hgo (fun u w' C' x σ' hx h2 h3 h4 => ?_) (fun d x hx _ => hx.elim) (fun u x w' C' σ' hx h2 h3 h4 => ?_)
            · obtain ⟨hdl, hrc⟩ := put_spec hx
              obtain ⟨k1, k2⟩ := recheck_spec hrc
              refine sim_ok hA hB hn hp fuel (H1.stepLoud hA ho hbp h2 (EnvOk.putE (σ := σ') ⟨(H1.hE.mono h3.le).size, (H1.hE.mono h3.le).env, (H1.hE.mono h3.le).dlen, (H1.hE.mono h3.le).ds⟩ hdl h4) h3 (ap' := unreq ops i ap) (fun j hj oj hoj => ?_)) (by simp at hf; omega) k1
              obtain ⟨s1, s2⟩ := pkeep x j hj oj hoj
              obtain ⟨q1, q2⟩ := H1.pok j hj oj hoj
              obtain ⟨v, p1, p2⟩ := q1.same s1 s2
              refine ⟨⟨v, p1, ?_⟩, fun hwj => unreq_mem (q2 (by rw [wantA_same s1]; exact hwj)) (hbp j hj)⟩
              rcases p2 with p2 | ⟨p2, p3, p4⟩
              · exact .inl p2
              · exact .inr ⟨p2, p3, quiet_σ p3 p4 (k2 j (unreq_mem (q2 (by rw [wantA_same s1]; exact p2)) (hbp j hj)) oj hoj v p1)⟩
            · refine hp u x _ w' C' a hx h2 (EnvOk.weak (E := mask ops pend env1) ⟨(H1.hE.mono h3.le).size, (H1.hE.mono h3.le).env, (H1.hE.mono h3.le).dlen, (H1.hE.mono h3.le).ds⟩ fun t => ?_) (H1.hX.trans h3) h4
              rcases H1.e0 t with e | ⟨e1, e2⟩
              · exact .inl e
              · right
                rw [e2]
                rcases mask_get (ops := ops) (env := env1) (t := t) (l := pend) with ⟨⟨j, h5, h6⟩, _⟩ | ⟨_, h5⟩
                · obtain ⟨oj, hoj, hd⟩ := dstOf_op h6
                  exact absurd hd (e1 j oj hoj)
                · exact h5.symm
          · have hw' : Region.wanted o (yielded ops a.tmps) = false := wanted_of H1.hE ((wantA_same hr).trans hw)
            rw [if_neg (by rw [hw']; decide)]
            obtain ⟨hdl, hrc⟩ := put_spec hput
            refine sim_ok hA hB hn hp fuel (H1.stepLoud hA ho hbp H1.hI (H1.hE.putE hdl rep_undef) (.refl w C σ) (fun j hj oj hoj => ?_)) (by simp at hf; omega) hrc
            obtain ⟨s1, s2⟩ := pkeep (.tup []) j hj oj hoj
            obtain ⟨q1, q2⟩ := H1.pok j hj oj hoj
            exact ⟨q1.same s1 s2, fun hwj => q2 (by rw [wantA_same s1]; exact hwj)⟩
        · exact hk.elim

include HT in
/-- A drawn region: by a run in one order, which the checks allow. -/
theorem AW.draw (hm : P.follows .mixedOrders = true) {id : Nat} (ord : List Nat) (hs : statB ops ord = true) {K : AEx → St → Prop} (h : arunD P T ρ ops (mask ops ord env) ord [] ⟨n, env, σ, ds⟩ (K .normal) (fun a => K (.pan a))) :
    AW P T ρ (.region id ops true) ⟨n, env, σ, ds⟩ K :=
  ⟨fun w C a hI hE => by
    refine wp_region_any hm ?_
    simp only [statB, Bool.and_eq_true, permB] at hs
    obtain ⟨⟨⟨⟨⟨p1, p2⟩, p3⟩, s2⟩, s3⟩, s4⟩ := hs
    have hsp := apartB_spec s4
    have hlt : ∀ {j : Nat} {o : Oper}, ops[j]? = some o → j < ops.size := fun h => (Array.getElem?_eq_some_iff.1 h).1
    have hA : Apart ops := fun m j om oj d h1 h2 h3 => apart1_spec (hsp j (hlt h2) oj h2).2 m (hlt h1) om d h1 h3
    have hB : ∀ j oj, ops[j]? = some oj → ∀ e ∈ oj.after, Region.binds .any e = true → e.on < j := fun j oj h1 => (hsp j (hlt h1) oj h1).1
    have hw : ({ w with drawn := w.drawn + 1 } : World).heap = w.heap := rfl
    have hX : Ext w C σ { w with drawn := w.drawn + 1 } C σ := Ext.heap hw rfl rfl rfl
    have hnd := nodB_nodup p3
    have hmem : ∀ j, j < ops.size ↔ j ∈ ord := fun j => ⟨coverB_mem p1 j, ltB_mem p2 j⟩
    have hlen : ops.size = ([] : List Nat).length + ord.length := by
      have : (List.range ops.size).Perm ord := (List.perm_ext_iff_of_nodup List.nodup_range hnd).2 fun j => by rw [List.mem_range]; exact hmem j
      have := this.length_eq
      simpa using this
    refine sim_ok HT hA hB (E0 := mask ops ord env) (ρ := ρ) (n := n) (ds := ds) (pend := []) (rest := ord) (ap := []) (env := env) (σ := σ) (C := C) (w0 := w) (C0 := C) (σ0 := σ) (K := K .normal) (KP := fun a => K (.pan a)) (fun S' w' C' a' h1 h2 h3 h4 => ⟨.normal, S', C', h1, trivial, h2, h3, h4⟩)
      (fun v x S' w' C' a h1 h2 h3 h4 h5 => ⟨.pan x, S', C', h1, ⟨v, rfl, h5⟩, h2, h3, h4⟩) ops.size ?_ hlen h
    refine ⟨by simp, fun j hj => ?_, fun j hj => (hmem j).2 (by simpa using hj), by simpa using hnd, s2, s3, Inv.heap hw hI, hE.mono hX.le, hX, fun j hj => by simp at hj, fun j hj => by simp at hj, fun j m hj hjr => absurd ((hmem j).1 hj) hjr, fun t => ?_⟩
    · have h1 := (hmem j).1 hj
      simp [hj, h1]
    · rcases mask_get (ops := ops) (env := env) (t := t) (l := ord) with ⟨_, h2⟩ | ⟨h1, h2⟩
      · exact .inl h2
      · exact .inr ⟨fun j o ho hd => h1 j ((hmem j).1 (hlt ho)) (by rw [dstOf_some ho]; exact hd), h2⟩⟩

end
end Go.Proofs.Ytdhkopangbgehaa.E
