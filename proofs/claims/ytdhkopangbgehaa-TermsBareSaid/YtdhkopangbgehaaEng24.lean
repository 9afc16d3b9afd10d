/- The engine, part 24: a nil slice that is to grow is an own row of no elements. No conditions. -/
import Derived.Test.YtdhkopangbgehaaEng23
set_option linter.unusedVariables false
set_option linter.unusedSimpArgs false
set_option linter.unusedSectionVars false
namespace Go.Proofs.Ytdhkopangbgehaa.E
open Go

section
variable {P : Program} {T : Tab}

theorem nils_val {w : World} {C : Cz} {v : Value} (h : RepA w C v (.d .nils)) : v = .slice none 0 0 := by
  have h := repA_d h
  cases h; rfl

/-- In a variable. -/
theorem AW.ghost {ρ : Nat} {c : Code} {n : Nat} {env : List (Nat × Val)} {σ : List AObj} {ds : List Dfr} {K : AEx → St → Prop} (e sz o off : Nat) (hz : 0 < sz) {cells : List AV} (ho : σ[o]? = some (.var cells)) (hc : cells[off]? = some (.d .nils))
    (h : AW P T ρ c ⟨n, env, σ.set o (.var (cells.set off (.own σ.length 0))) ++ [.row e sz []], ds⟩ K) : AW P T ρ c ⟨n, env, σ, ds⟩ K :=
  ⟨fun w C a hI hE => by
    obtain ⟨C1, I1, E1, r1, l1⟩ := nil_row (e := e) hI hz
    have hlt : o < σ.length := (List.getElem?_eq_some_iff.1 ho).1
    have ho1 : (σ ++ [.row e sz []])[o]? = some (.var cells) := by rw [List.getElem?_append_left hlt]; exact ho
    obtain ⟨en, he⟩ : ∃ en, C1.θ[o]? = some en := ⟨_, List.getElem?_eq_getElem (by rw [I1.len]; simp; omega)⟩
    obtain ⟨k1, b, cs, ty, k2, k3, k4⟩ := I1.ok o _ en ho1 he
    obtain ⟨c1, i1⟩ := I1.upd (w' := w) (o' := .var (cells.set off (.own σ.length 0))) ho1 he rfl (Nat.le_refl _) (.refl en) (fun _ _ _ => rfl) (fun b hb => .inl hb) (fun hle => ⟨k1, b, cs, ty, k2, k3, by
      refine ⟨by simp [k4.1], fun i v x hv hx => ?_⟩
      rcases set_get _ _ _ _ _ hx with ⟨e1, rfl⟩ | ⟨e1, e2⟩
      · subst e1
        have := nils_val (k4.2 off v _ hv hc)
        subst this
        exact r1.mono hle
      · exact (k4.2 i v x hv e2).mono hle⟩)
    have x1 := Ext.upd (w' := w) I1 (o' := .var (cells.set off (.own σ.length 0))) ho1 he rfl rfl rfl rfl (Nat.le_refl _) c1 (fun _ _ _ => rfl) (fun b hb => .inl hb)
    rw [List.set_append_left o _ hlt] at i1 x1
    have hE2 := (hE.mono l1).mono c1
    refine wp_mono (h.out w _ a i1 ⟨hE2.size, hE2.env, hE2.dlen, hE2.ds⟩) ?_
    rintro ex a' w' ⟨x, S', C', q1, q2, q3, q4, q5⟩
    exact ⟨x, S', C', q1, q2, q3, q4, (E1.trans x1).trans q5⟩⟩

/-- In a slot. -/
theorem AW.ghostE {ρ : Nat} {c : Code} {n : Nat} {env : List (Nat × Val)} {σ : List AObj} {ds : List Dfr} {K : AEx → St → Prop} (e sz t : Nat) (hz : 0 < sz) (ht : get env t = .c (.d .nils))
    (h : AW P T ρ c ⟨n, (t, .c (.own σ.length 0)) :: env, σ ++ [.row e sz []], ds⟩ K) : AW P T ρ c ⟨n, env, σ, ds⟩ K :=
  ⟨fun w C a hI hE => by
    obtain ⟨C1, I1, E1, r1, l1⟩ := nil_row (e := e) hI hz
    have hE2 := hE.mono l1
    refine wp_mono (h.out w _ a I1 ⟨hE2.size, fun s => ?_, hE2.dlen, hE2.ds⟩) ?_
    · simp only [get_cons]
      split
      · rename_i es
        subst es
        have := hE2.env t
        simp only [ht] at this
        have := nils_val (c_of this)
        rw [this]
        exact .c _ _ r1
      · exact hE2.env s
    · rintro ex a' w' ⟨x, S', C', q1, q2, q3, q4, q5⟩
      exact ⟨x, S', C', q1, q2, q3, q4, E1.trans q5⟩⟩

/-- From a state that tells less. -/
theorem AW.fits {ρ : Nat} {c : Code} {S I : St} {K : AEx → St → Prop} (hf : Fits S I) (hl : Nat.ble S.σ.length I.σ.length = true) (h : AW P T ρ c I K) : AW P T ρ c S K :=
  ⟨fun w C a hI hE => by
    obtain ⟨C1, i1, e1, x1⟩ := hf.ok hI hE
    have X := x1 (Nat.le_of_ble_eq_true hl) hI.len (.refl w C S.σ)
    refine wp_mono (h.out w C1 a i1 e1) ?_
    rintro ex a' w' ⟨x, S', C', q1, q2, q3, q4, q5⟩
    exact ⟨x, S', C', q1, q2, q3, q4, X.trans q5⟩⟩

end
end Go.Proofs.Ytdhkopangbgehaa.E
