/- Texts, merged: As2, Kw4, Tm14, Tmd, On0, Cl1, Cl2, FrS0, St0, St1, St2, St3, St4, Lay173, Fm1, Lay156, St6, St5A, St5B, St5C, St5D, St7, Fr1, Df0, Df1, St8, St9, St10, Bk0, Bk1, Bk2, Bk3, Bk4, Pq1. No conditions. -/
import Derived.Test.YtmaokphbfjpodaaGreatDoorGenX8
import Derived.Test.YtmaokphbfjpodaaGreatDoorEngX3
import Derived.Below
import Derived.OneCell
import Derived.Test.YtmaokphbfjpodaaGreatDoorGenX3
import Derived.Test.YtmaokphbfjpodaaGreatDoorGenX4
import Derived.Test.YtmaokphbfjpodaaGreatDoorGenX6
import Derived.Lib.Join
import Derived.Lib.ItoaNum
import Derived.Test.YtmaokphbfjpodaaGreatDoorTab
import Derived.Shelf.Strconv.Itoa4
import Derived.KernelRfl
import Derived.Lib.AppendIntMem
import Derived.Shelf.Strings.OnBuilder
import Derived.Lib.ItoaLen
import Derived.Test.YtmaokphbfjpodaaGreatDoorGenX7
/- errors.As and errors.Is as calls over the engine's data. No conditions. -/
set_option linter.unusedVariables false
set_option linter.unusedSimpArgs false
namespace Go.Proofs.YtmaokphbfjpodaaGreatDoor.E
open Go Go.RowKit

theorem two_vs {w : World} {C : Cz} {vs : Array Value} {x y : Val} (h : RepVs w C vs.toList [x, y]) : ∃ u v, vs = #[u, v] ∧ RepV w C u x ∧ RepV w C v y := by
  have hl : vs.size = 2 := by have := h.1; simpa using this
  obtain ⟨u, v, rfl⟩ : ∃ u v, vs = #[u, v] := by
    match vs, hl with
    | ⟨[u, v]⟩, _ => exact ⟨u, v, rfl⟩
  exact ⟨u, v, rfl, h.2 0 u x rfl rfl, h.2 1 v y rfl rfl⟩
theorem as_call (cells : List DV) : ACall Tryz.prog 22 [.c (.d (.ifc 58 (.rp 0 cells))), .c (.ifc 66 (.ptr 0 0))] [.var [.d .nilp]]
    (fun o σ => o = .ret (.c (.d (.bool true))) ∧ σ = [.var [.d (.rp 0 cells)]]) where
  out := fun w C vs hI hv => by
    obtain ⟨u, v, rfl, h1, h2⟩ := two_vs hv
    cases repA_d (c_of h1) with
    | ifc _ u _ h1 =>
    cases (c_of h2) with
    | ifc _ v _ h2 =>
    cases h2 with
    | ptr _ _ b en he hr hb =>
    have hrp := h1
    cases h1 with
    | rp _ be oe _ cs e fz vs hrt hh hcell hrep =>
    obtain ⟨k1, b', ca, ty, k2, k3, k4⟩ := hI.ok 0 _ en rfl he
    rw [hb] at k2; cases k2
    obtain ⟨x, rfl⟩ : ∃ x, ca = #[x] := by
      have := k4.1
      match ca, this with
      | ⟨[x]⟩, _ => exact ⟨x, rfl⟩
    have hx := k4.2 0 x _ rfl rfl
    cases repA_d hx
    obtain ⟨hun, hblt⟩ := hI.unrg 0 _ en b rfl rfl he hb
    obtain ⟨_, gt, gf, hgh⟩ := hI.glb 0 _ (by first | exact List.mem_singleton.2 rfl | exact List.mem_cons_self | exact List.mem_cons_of_mem _ List.mem_cons_self)
    have hg : w.cell? ⟨0, 0, none⟩ = some (.iface 152 (.agg #[.pointer (some ⟨5, 31, none⟩)])) := by simp [World.cell?, hgh]
    have hfz : w.frozen? ⟨b, 0, none⟩ = false := by simp [World.frozen?, k3]
    refine (as_hit ⟨be, oe, none⟩ ⟨b, 0, none⟩ (.pointer none) w hg (by simp [World.cell?, k3]) hfz).mono fun e1 w' ⟨g1, g2⟩ => ?_
    subst g1
    generalize hW : (((w.alloc _).alloc _).alloc _).alloc _ = W at g2
    have hWs : W.heap.size = w.heap.size + 4 := by rw [← hW]; simp
    have hWo : ∀ k, k < w.heap.size → W.heap[k]? = w.heap[k]? := fun k hk => by
      rw [← hW, alloc_old _ _ (by simp; omega), alloc_old _ _ (by simp; omega), alloc_old _ _ (by simp; omega), alloc_old _ _ hk]
    have hos : W.os = w.os ∧ W.tape = w.tape ∧ W.output = w.output := by rw [← hW]; exact ⟨rfl, rfl, rfl⟩
    have hs' : w'.heap.size = w.heap.size + 4 := by rw [g2]; simp [hWs]
    have hold : ∀ k, k < w.heap.size → en.b ≠ some k → w'.heap[k]? = w.heap[k]? := fun k hk hne => by
      rw [g2, Below.heap_setCell _ _ _ _ (fun e => hne (by rw [hb, e])), hWo k hk]
    have hnew : w'.heap[b]? = some (.cells #[.pointer (some ⟨be, oe, none⟩)] ty (0, 0)) := by
      rw [g2]
      exact one_setCell (by rw [hWo b hblt]; exact k3)
    obtain ⟨c1, i1⟩ := hI.upd (w' := w') (o' := .var [.d (.rp 0 cells)]) rfl he rfl (by omega) (.refl en) hold (fun b hb => .inl hb) (fun hle => ⟨k1, b, _, ty, hb, hnew, rfl, fun i v x hv hx => by
      match i with
      | 0 => simp at hv hx; subst hv; subst hx; exact .d _ _ (hrp.mono hle.rg)
      | i + 1 => simp at hv⟩)
    have x1 := Ext.upd (w' := w') hI (o' := .var [.d (.rp 0 cells)]) rfl he rfl (by rw [g2]; exact hos.1) (by rw [g2]; exact hos.2.1) (by rw [g2]; exact hos.2.2) (by omega) c1 hold (fun b hb => .inl hb)
    exact ⟨_, _, _, ⟨rfl, rfl⟩, i1, x1, _, rfl, .c _ _ (.d _ _ (.bool _))⟩
end Go.Proofs.YtmaokphbfjpodaaGreatDoor.E

/- Walks: Fault, blanks, wakes (parse). No conditions. -/
set_option linter.unusedVariables false
set_option linter.unusedSimpArgs false
namespace Go.Proofs.YtmaokphbfjpodaaGreatDoor.E
open Go

def flcV (c a : Int) (w : ByteArray) : Val := .agg [.d (.int .i64 c), .d (.int .i64 a), .d (.str w)]
set_option maxRecDepth 10000 in
theorem fault1_call (c a : Int) (w : ByteArray) (hc : c ≠ 0) : ACall Tryz.prog 10 [.c (.d (faultI c a w))] [] (fun o σ => o = .ret (.tup [flcV c a w, .c (.d (.bool true))]) ∧ σ = []) := by
  have A := as_call [.int .i64 c, .int .i64 a, .str w]
  unfold faultI
  refine ACall.body tab_ok (ρ := 0) (N := 36) Tryz.func10 rfl rfl rfl rfl rfl ?_
  repeat' first | refine AW.seq ?_ | refine AW.block ?_ | (refine (_root_.id : AW _ _ _ (.region 5 _ true) _ _ → _) ?_; refine AW.draw (id := 5) tab_ok mixed [0, 1, 2, 3, 4, 5, 6, 7, 8, 9, 10, 11, 12, 13, 14] (by kernel_rfl) ?_; conv => whnf) | ((first | refine AW.region tab_ok ?_ | refine AW.cond ?_ | refine AW.skip ?_ | refine AW.ret ?_ | refine AW.exit ?_); conv => whnf) | (refine (A).mono ?_; rintro _ _ ⟨rfl, rfl⟩; conv => whnf) | ((first | refine And.intro (@rfl Val _) ?_ | refine And.intro (by decide) ?_ | refine cs (fun _ => ?_) (fun _ => ?_)) <;> conv => whnf)
  all_goals first | exact ⟨rfl, rfl⟩ | (exfalso; simp_all; done)
def T1 : ByteArray := ⟨#[92, 120, 58, 105, 110, 116, 46, 120, 43, 49]⟩
def T2 : ByteArray := ⟨#[49, 32, 60, 32, 50, 32, 60, 32, 51]⟩
def wk1 : Bool := match readF T1 with
  | .ok (.node k name _ _ tk _ _ _ _ _ [.node k2 _ _ _ _ _ _ _ _ pl2 _]) => decide (k = 4) && decide (name = ⟨#[120]⟩) && decide (tk = 1) && decide (k2 = 15) && decide (pl2 = 8)
  | _ => false
def wk2 : Bool := match readF T2 with
  | .error x => decide (x = (40, 6, ⟨#[60]⟩))
  | _ => false
theorem wk1_ok : wk1 = true := by decide +kernel
theorem wk2_ok : wk2 = true := by decide +kernel
set_option maxRecDepth 10000 in
set_option maxHeartbeats 1000000 in
theorem wakes04_call : ACall Tryz.prog 7 [] [] (fun o σ => o = .ret (.c (.d (.bool true))) ∧ σ = []) := by
  have P := parseTerm_call T1
  have Q := parseTerm_call T2
  have h1 := wk1_ok
  have h2 := wk2_ok
  have F := fault1_call 40 6 ⟨#[60]⟩ (by decide)
  unfold wk1 at h1
  unfold wk2 at h2
  unfold termO at P Q
  split at h1
  · rename_i k nm ag nu tk tks uk uks lb pl k2 nm2 ag2 nu2 tk2 tks2 uk2 uks2 lb2 pl2 ks2 hr
    split at h2
    · rename_i x hr2
      rw [hr] at P
      rw [hr2] at Q
      simp only [Bool.and_eq_true, decide_eq_true_eq] at h1 h2
      obtain ⟨⟨⟨⟨rfl, rfl⟩, rfl⟩, rfl⟩, rfl⟩ := h1
      subst h2
      refine ACall.body tab_ok (ρ := 0) (N := 78) Tryz.func7 rfl rfl rfl rfl rfl ?_
      repeat' first | ((refine And.intro (⟨by decide, by simp [Tm.rows]⟩ : _ ∧ _) ?_; conv => whnf)) | ((intro row hrow; obtain rfl := Option.some.inj hrow; conv => whnf)) | refine AW.seq ?_ | refine AW.block ?_ | ((first | refine AW.region tab_ok ?_ | refine AW.cond ?_ | refine AW.skip ?_ | refine AW.ret ?_ | refine AW.exit ?_); conv => whnf) | ((first | refine (P).mono ?_ | refine (Q).mono ?_ | refine (F).mono ?_); rintro _ _ ⟨rfl, rfl⟩; conv => whnf) | ((first | refine And.intro (@rfl Val _) ?_ | refine And.intro (by decide) ?_ | refine cs (fun _ => ?_) (fun _ => ?_)) <;> conv => whnf)
      all_goals first | exact ⟨rfl, rfl⟩
    · cases h2
  · cases h1
end Go.Proofs.YtmaokphbfjpodaaGreatDoor.E

/- Walks: bare of terms in the document's answer; Bare, both. No conditions. -/
set_option linter.unusedVariables false
set_option linter.unusedSimpArgs false
namespace Go.Proofs.YtmaokphbfjpodaaGreatDoor.E
open Go

theorem tmcheck_ok {t : Tm} (h : tmcheck t = 0) : tmN t ≤ 8192 ∧ tmright t = true := by
  unfold tmcheck at h
  split at h
  · omega
  · split at h
    · omega
    · split at h
      · rename_i h3; exact ⟨by omega, h3⟩
      · omega
end Go.Proofs.YtmaokphbfjpodaaGreatDoor.E

/- Plain laws: parts of a term that is one. No conditions. -/
set_option linter.unusedVariables false
set_option linter.unusedSimpArgs false
namespace Go.Proofs.YtmaokphbfjpodaaGreatDoor.E
open Go

end Go.Proofs.YtmaokphbfjpodaaGreatDoor.E

/- Small facts of terms. No conditions. -/
set_option linter.unusedVariables false
set_option linter.unusedSimpArgs false
namespace Go.Proofs.YtmaokphbfjpodaaGreatDoor.E
open Go

end Go.Proofs.YtmaokphbfjpodaaGreatDoor.E

/- What counts of a term. No conditions. -/
set_option linter.unusedVariables false
set_option linter.unusedSimpArgs false
namespace Go.Proofs.YtmaokphbfjpodaaGreatDoor.E
open Go

/-- A word without its place. -/
structure Tk where
  kind : Int
  text : ByteArray
  num : Int
def Wd.tk (w : Wd) : Tk := ⟨w.kind, w.text, w.num⟩
mutual
/-- What counts of a term, without places. -/
def cl : Tm → Tm
  | .node k name arg num tk tks uk uks label place ks =>
    .node k (if nameK k || decide (k = 15) then name else s0) (if argK k then arg else s0) (if k = 1 then num else 0) (if typeK k then tk else 0) (if typeK k then tks else []) (if toK k then uk else 0) (if toK k then uks else []) (if k = 17 then label else 0) 0 (clL ks)
def clL : List Tm → List Tm
  | [] => []
  | t :: l => cl t :: clL l
end

end Go.Proofs.YtmaokphbfjpodaaGreatDoor.E

/- Terms that may be told; numbers in range. No conditions. -/
set_option linter.unusedVariables false
set_option linter.unusedSimpArgs false
namespace Go.Proofs.YtmaokphbfjpodaaGreatDoor.E
open Go

def NumR (num : Int) : Prop := -9223372036854775808 ≤ num ∧ num ≤ 9223372036854775807
mutual
/-- All numbers are in range. -/
def tmInR : Tm → Prop
  | .node _ _ _ num _ _ _ _ _ _ ks => NumR num ∧ tmInRs ks
def tmInRs : List Tm → Prop
  | [] => True
  | t :: l => tmInR t ∧ tmInRs l
end
theorem tmInRs_mem : ∀ (ks : List Tm) (t : Tm), t ∈ ks → tmInRs ks → tmInR t
  | x :: l, t, hm, h => by
    rcases List.mem_cons.1 hm with rfl | hm
    · exact h.1
    · exact tmInRs_mem l t hm h.2
mutual
def tmBad : Tm → Bool
  | .node k name arg num tk tks uk uks label place ks => (decide (k = 17) || (decide (k = 1) && decide (num = -9223372036854775808))) || tmBads ks
def tmBads : List Tm → Bool
  | [] => false
  | t :: l => tmBad t || tmBads l
end
end Go.Proofs.YtmaokphbfjpodaaGreatDoor.E

/- Strings as rows. No conditions. -/
set_option linter.unusedVariables false
set_option linter.unusedSimpArgs false
namespace Go.Proofs.YtmaokphbfjpodaaGreatDoor.E
open Go

end Go.Proofs.YtmaokphbfjpodaaGreatDoor.E

/- Texts of types and terms: the words that the program and the document write. No conditions. -/
set_option linter.unusedVariables false
set_option linter.unusedSimpArgs false
namespace Go.Proofs.YtmaokphbfjpodaaGreatDoor.E
open Go

/-! ### Types -/
/-! ### Terms -/
def bw (l : List UInt8) : ByteArray := ⟨l.toArray⟩
def digs (n : Int) : ByteArray := ⟨(Lib.itoa n).toArray⟩
end Go.Proofs.YtmaokphbfjpodaaGreatDoor.E

/- Walks: types.tight, sign, write, Text. No conditions. -/
set_option linter.unusedVariables false
set_option linter.unusedSimpArgs false
namespace Go.Proofs.YtmaokphbfjpodaaGreatDoor.E
open Go

end Go.Proofs.YtmaokphbfjpodaaGreatDoor.E

/- Walks: types.Text; the document's text of a type. No conditions. -/
set_option linter.unusedVariables false
set_option linter.unusedSimpArgs false
namespace Go.Proofs.YtmaokphbfjpodaaGreatDoor.E
open Go

/-! ### The document's -/
end Go.Proofs.YtmaokphbfjpodaaGreatDoor.E

/- Walks: the writer's words: put, kind, strength. No conditions. -/
set_option linter.unusedVariables false
set_option linter.unusedSimpArgs false
namespace Go.Proofs.YtmaokphbfjpodaaGreatDoor.E
open Go

end Go.Proofs.YtmaokphbfjpodaaGreatDoor.E

/- What the writer's walks say. No conditions. -/
set_option linter.unusedVariables false
set_option linter.unusedSimpArgs false
namespace Go.Proofs.YtmaokphbfjpodaaGreatDoor.E
open Go

end Go.Proofs.YtmaokphbfjpodaaGreatDoor.E

/- A function of Go's library laid at this translation: its code is the one that the library's contract speaks of. No conditions. -/
namespace Go.Proofs.YtmaokphbfjpodaaGreatDoor.E
open Go.Shelf
def lays173_ren : Go.Shelf.Ren := ⟨fun | 173 => 25 | 246 => 48 | 283 => 99 | 284 => 100 | 285 => 101 | 286 => 102 | 129 => 128 | 317 => 127 | 318 => 129 | 319 => 130 | 320 => 131 | 337 => 151 | 338 => 152 | n => n, fun | 2 => 2 | 3 => 3 | 9 => 9 | 4 => 4 | 171 => 166 | 0 => 0 | 53 => 167 | 37 => 125 | 5 => 5 | 173 => 170 | 212 => 182 | 51 => 183 | 20 => 20 | 213 => 184 | 46 => 186 | 232 => 209 | 233 => 210 | n => n, fun | 17 => 1 | 18 => 3 | 19 => 4 | n => n⟩
set_option maxRecDepth 100000 in
theorem lays173 : Go.Proofs.LaysM.n173 Tryz.prog lays173_ren where
  mixed := by kernel_rfl
  f129 := Tryz.func128.trans (congrArg some (by kernel_rfl))
  f173 := Tryz.func25.trans (congrArg some (by kernel_rfl))
  f246 := Tryz.func48.trans (congrArg some (by kernel_rfl))
  f283 := Tryz.func99.trans (congrArg some (by kernel_rfl))
  f284 := Tryz.func100.trans (congrArg some (by kernel_rfl))
  f285 := Tryz.func101.trans (congrArg some (by kernel_rfl))
  f286 := Tryz.func102.trans (congrArg some (by kernel_rfl))
  f317 := Tryz.func127.trans (congrArg some (by kernel_rfl))
  f318 := Tryz.func129.trans (congrArg some (by kernel_rfl))
  f319 := Tryz.func130.trans (congrArg some (by kernel_rfl))
  f320 := Tryz.func131.trans (congrArg some (by kernel_rfl))
  f337 := Tryz.func151.trans (congrArg some (by kernel_rfl))
  f338 := Tryz.func152.trans (congrArg some (by kernel_rfl))
  t0 := Tryz.underlying0
  a0 := Tryz.isAgg0
  z0 := Tryz.sizeOf0
  v0 := Tryz.zeroValue0
  t2 := Tryz.underlying2
  a2 := Tryz.isAgg2
  z2 := Tryz.sizeOf2
  v2 := Tryz.zeroValue2
  t3 := Tryz.underlying3
  a3 := Tryz.isAgg3
  z3 := Tryz.sizeOf3
  v3 := Tryz.zeroValue3
  t4 := Tryz.underlying4
  a4 := Tryz.isAgg4
  z4 := Tryz.sizeOf4
  v4 := Tryz.zeroValue4
  t5 := Tryz.underlying5
  a5 := Tryz.isAgg5
  z5 := Tryz.sizeOf5
  v5 := Tryz.zeroValue5
  t9 := Tryz.underlying9
  a9 := Tryz.isAgg9
  z9 := Tryz.sizeOf9
  v9 := Tryz.zeroValue9
  t20 := Tryz.underlying20
  a20 := Tryz.isAgg20
  z20 := Tryz.sizeOf20
  v20 := Tryz.zeroValue20
  t37 := Tryz.underlying125
  a37 := Tryz.isAgg125
  z37 := Tryz.sizeOf125
  v37 := Tryz.zeroValue125
  t46 := Tryz.underlying186
  a46 := Tryz.isAgg186
  z46 := Tryz.sizeOf186
  v46 := Tryz.zeroValue186
  t51 := Tryz.underlying183
  a51 := Tryz.isAgg183
  z51 := Tryz.sizeOf183
  v51 := Tryz.zeroValue183
  t53 := Tryz.underlying167
  a53 := Tryz.isAgg167
  z53 := Tryz.sizeOf167
  v53 := Tryz.zeroValue167
  t171 := Tryz.underlying166
  a171 := Tryz.isAgg166
  z171 := Tryz.sizeOf166
  v171 := Tryz.zeroValue166
  t173 := Tryz.underlying170
  a173 := Tryz.isAgg170
  z173 := Tryz.sizeOf170
  v173 := Tryz.zeroValue170
  t212 := Tryz.underlying182
  a212 := Tryz.isAgg182
  z212 := Tryz.sizeOf182
  v212 := Tryz.zeroValue182
  t213 := Tryz.underlying184
  a213 := Tryz.isAgg184
  z213 := Tryz.sizeOf184
  t232 := Tryz.underlying209
  a232 := Tryz.isAgg209
  z232 := Tryz.sizeOf209
  v232 := Tryz.zeroValue209
  t233 := Tryz.underlying210
  a233 := Tryz.isAgg210
  z233 := Tryz.sizeOf210
  v233 := Tryz.zeroValue210
  g17 := by kernel_rfl
  g18 := by kernel_rfl
  g19 := by kernel_rfl
  i0 := by kernel_rfl
  i2 := by kernel_rfl
  i3 := by kernel_rfl
  i4 := by kernel_rfl
  i5 := by kernel_rfl
  i9 := by kernel_rfl
  i20 := by kernel_rfl
  i37 := by kernel_rfl
  i46 := by kernel_rfl
  i51 := by kernel_rfl
  i53 := by kernel_rfl
  i171 := by kernel_rfl
  i173 := by kernel_rfl
  i212 := by kernel_rfl
  i232 := by kernel_rfl
  i233 := by kernel_rfl
  m17 := by kernel_rfl
  m18 := by kernel_rfl
  m19 := by kernel_rfl
end Go.Proofs.YtmaokphbfjpodaaGreatDoor.E

/- strconv.FormatInt: the library's contract in the engine's words. No conditions. -/
set_option linter.unusedVariables false
set_option linter.unusedSimpArgs false
namespace Go.Proofs.YtmaokphbfjpodaaGreatDoor.E
open Go Go.Sort Go.Shelf Go.RowKit

theorem Inv.grown {w w' : World} {C : Cz} {σ : List AObj} (h : Inv w C σ) (hsz : w.heap.size ≤ w'.heap.size) (hold : ∀ b, b < w.heap.size → w'.heap[b]? = w.heap[b]?) (hos : w'.os = w.os) (ht : w'.tape = w.tape) (hu : w'.output = w.output) :
    Inv w' C σ ∧ Ext w C σ w' C σ := by
  have hle : CzLe w C w' C := ⟨fun b r hb => ⟨hb, .inl (hold b (h.rgs b r hb))⟩, fun i e he => ⟨e, he, .refl e⟩⟩
  refine ⟨⟨h.len, fun i o e h1 h2 => (h.ok i o e h1 h2).keep hle (fun hl b hb => hold b (h.unrg i o e b h1 hl h2 hb).2), fun i o e b h1 h2 h3 h4 => ?_, h.apart, fun b r hb => Nat.lt_of_lt_of_le (h.rgs b r hb) hsz, h.glb.le hle⟩,
    ⟨hos, ht, hu, hsz, hle, fun b hb _ _ => hold b hb, fun _ h => .inl h, fun _ _ h => .inl h⟩⟩
  obtain ⟨g1, g2⟩ := h.unrg i o e b h1 h2 h3 h4
  exact ⟨g1, Nat.lt_of_lt_of_le g2 hsz⟩
theorem two_vs' {w : World} {C : Cz} {vs : Array Value} {x y : Val} (h : RepVs w C vs.toList [x, y]) : ∃ u v, vs = #[u, v] ∧ RepV w C u x ∧ RepV w C v y := by
  have hl : vs.size = 2 := by have := h.1; simpa using this
  obtain ⟨u, v, rfl⟩ : ∃ u v, vs = #[u, v] := by
    match vs, hl with
    | ⟨[u, v]⟩, _ => exact ⟨u, v, rfl⟩
  exact ⟨u, v, rfl, h.2 0 u x rfl rfl, h.2 1 v y rfl rfl⟩
theorem pow10_name : Tryz.prog.globalNamed "internal/strconv.uint64pow10" = some 1 := by kernel_rfl
theorem pow10_cells : (globs.lookup 1) = some (Lib.pow10Tab.map fun z => Value.int .u64 z).toArray := by kernel_rfl
theorem fmt_call (n : Int) (h0 : -9223372036854775808 ≤ n) (h1 : n ≤ 9223372036854775807) :
    ACall Tryz.prog 25 [.c (.d (.int .i64 n)), .c (.d (.int .i64 10))] [] (fun o σ => o = .ret (.c (.d (.str (digs n)))) ∧ σ = []) where
  out := fun w C vs hI hv => by
    obtain ⟨u, v, rfl, g1, g2⟩ := two_vs' hv
    have e1 := int_of g1
    have e2 := int_of g2
    subst e1; subst e2
    have htab : Lib.TabIs Tryz.prog w "internal/strconv.uint64pow10" .u64 Lib.pow10Tab := by
      obtain ⟨_, t, fz, hg⟩ := hI.glb 1 _ (by first | exact List.mem_singleton.2 rfl | exact List.mem_cons_self | exact List.mem_cons_of_mem _ List.mem_cons_self)
      unfold Lib.TabIs World.var?
      rw [pow10_name]
      simp only [Option.bind_some, hg]
      have := pow10_cells
      first | exact this | simpa [globs] using this
    have hcon := Any.strconv_FormatInt_10 lays173 n h0 h1 w htab
    change Calls Tryz.prog 25 _ _ _ at hcon
    refine hcon.mono fun e' w' ⟨h1, k, os, h2⟩ => ?_
    subst h1; subst h2
    obtain ⟨i1, i2⟩ := hI.grown (Lib.size_grow w k os) (fun b hb => Lib.heap_grow_old w k os b hb) rfl rfl rfl
    exact ⟨_, _, C, ⟨rfl, rfl⟩, i1, i2, _, rfl, .c _ _ (.d _ _ (.str _))⟩
end Go.Proofs.YtmaokphbfjpodaaGreatDoor.E

/- A function of Go's library laid at this translation: its code is the one that the library's contract speaks of. No conditions. -/
namespace Go.Proofs.YtmaokphbfjpodaaGreatDoor.E
open Go.Shelf
end Go.Proofs.YtmaokphbfjpodaaGreatDoor.E

/- strings.Join: the library's contract in the engine's words. No conditions. -/
set_option linter.unusedVariables false
set_option linter.unusedSimpArgs false
namespace Go.Proofs.YtmaokphbfjpodaaGreatDoor.E
open Go Go.Sort Go.Shelf Go.RowKit

end Go.Proofs.YtmaokphbfjpodaaGreatDoor.E

/- Walks: the writer, by kinds (printed by mk42.py). No conditions. -/
set_option linter.unusedVariables false
set_option linter.unusedSimpArgs false
namespace Go.Proofs.YtmaokphbfjpodaaGreatDoor.E
open Go

end Go.Proofs.YtmaokphbfjpodaaGreatDoor.E

/- Walks: the writer, by kinds (printed by mk42.py). No conditions. -/
set_option linter.unusedVariables false
set_option linter.unusedSimpArgs false
namespace Go.Proofs.YtmaokphbfjpodaaGreatDoor.E
open Go

end Go.Proofs.YtmaokphbfjpodaaGreatDoor.E

/- Walks: the writer, by kinds (printed by mk42.py). No conditions. -/
set_option linter.unusedVariables false
set_option linter.unusedSimpArgs false
namespace Go.Proofs.YtmaokphbfjpodaaGreatDoor.E
open Go

end Go.Proofs.YtmaokphbfjpodaaGreatDoor.E

/- Walks: the writer, by kinds (printed by mk42.py). No conditions. -/
set_option linter.unusedVariables false
set_option linter.unusedSimpArgs false
namespace Go.Proofs.YtmaokphbfjpodaaGreatDoor.E
open Go

end Go.Proofs.YtmaokphbfjpodaaGreatDoor.E

/- Walks: numbers and operators; the writer on any term. No conditions. -/
set_option linter.unusedVariables false
set_option linter.unusedSimpArgs false
namespace Go.Proofs.YtmaokphbfjpodaaGreatDoor.E
open Go

end Go.Proofs.YtmaokphbfjpodaaGreatDoor.E

/- Free names: the program's walk over a term, with its maps. No conditions. -/
set_option linter.unusedVariables false
set_option linter.unusedSimpArgs false
namespace Go.Proofs.YtmaokphbfjpodaaGreatDoor.E
open Go

/-! ### Maps from names to numbers -/
abbrev TL := List (Nat × ByteArray × Int)
def encL (l : TL) : List (Nat × DV × DV) := l.map fun x => (x.1, .str x.2.1, .int .i64 x.2.2)
def tget (s : ByteArray) : TL → Nat → Option (Nat × Int)
  | [], _ => none
  | (_, k, v) :: l, i => if s = k then some (i, v) else tget s l (i + 1)
def tset (j : Nat) (v : Int) : TL → TL
  | [] => []
  | (c, k, u) :: l => match j with
    | 0 => (c, k, v) :: l
    | j + 1 => (c, k, u) :: tset j v l
def tval (s : ByteArray) (l : TL) : Int := match tget s l 0 with
  | some (_, v) => v
  | none => 0
def tput (s : ByteArray) (v : Int) (m : Nat × TL) : Nat × TL := match tget s m.2 0 with
  | some (j, _) => (m.1, tset j v m.2)
  | none => (m.1 + 1, m.2 ++ [(m.1, s, v)])
def tdel (s : ByteArray) (l : TL) : TL := match tget s l 0 with
  | some (j, _) => l.eraseIdx j
  | none => l
attribute [irreducible] tval tput tdel encL
/-! ### What the walk does -/
end Go.Proofs.YtmaokphbfjpodaaGreatDoor.E

/- Definitions of a program as data; what defs.sound and its document's answer tell of them. No conditions. -/
set_option linter.unusedVariables false
set_option linter.unusedSimpArgs false
namespace Go.Proofs.YtmaokphbfjpodaaGreatDoor.E
open Go

structure Df where
  name : ByteArray
  ty : Ty
  tm : Tm
  pl : Int
def Df.cells : Df → List DV
  | ⟨s, .node a bs, .node k name arg num tk tks uk uks label place ks, pl⟩ =>
    [.str s, .int .i8 a, .sl 0 2 (Ty.rows bs), .int .i8 k, .str name, .str arg, .int .i64 num, .int .i8 tk, .sl 0 2 (Ty.rows tks), .int .i8 uk, .sl 0 2 (Ty.rows uks), .int .i64 label, .int .i64 place, .sl 0 11 (Tm.rows ks), .int .i64 pl]
/-! ### The place of a name -/
def hv : Nat → List Df → TL
  | _, [] => []
  | k, d :: l => (k, d.name, (k : Int) + 1) :: hv (k + 1) l
/-! ### sound -/
end Go.Proofs.YtmaokphbfjpodaaGreatDoor.E

/- Walks: rules.Has, defs.sound. No conditions. -/
set_option linter.unusedVariables false
set_option linter.unusedSimpArgs false
namespace Go.Proofs.YtmaokphbfjpodaaGreatDoor.E
open Go

end Go.Proofs.YtmaokphbfjpodaaGreatDoor.E

/- Walks: may a term be told? No conditions. (Printed by mk43.py out of the walks of Has.) -/
set_option linter.unusedVariables false
set_option linter.unusedSimpArgs false
namespace Go.Proofs.YtmaokphbfjpodaaGreatDoor.E
open Go

end Go.Proofs.YtmaokphbfjpodaaGreatDoor.E

/- Plain facts: how long a term's text may be; the writer on any term that may be told. No conditions. -/
set_option linter.unusedVariables false
set_option linter.unusedSimpArgs false
namespace Go.Proofs.YtmaokphbfjpodaaGreatDoor.E
open Go

end Go.Proofs.YtmaokphbfjpodaaGreatDoor.E

/- The writer on any term that may be told; show.Text. No conditions. -/
set_option linter.unusedVariables false
set_option linter.unusedSimpArgs false
namespace Go.Proofs.YtmaokphbfjpodaaGreatDoor.E
open Go

end Go.Proofs.YtmaokphbfjpodaaGreatDoor.E

/- What is told of a type is read as it was: the words of a type and the reader of types, in plain Lean. No conditions. -/
set_option linter.unusedVariables false
set_option linter.unusedSimpArgs false
namespace Go.Proofs.YtmaokphbfjpodaaGreatDoor.E
open Go

/-- The words from a place on. -/
def toksW (l : List Wd) (i : Nat) : List Tk := (l.drop i).map Wd.tk
def hdT (ts : List Tk) (k : Int) (s : ByteArray) : Bool := match ts with
  | x :: _ => decide (x.kind = k) && decide (x.text = s)
  | [] => false
@[simp] theorem hdT_cons (x : Tk) (ts : List Tk) (k : Int) (s : ByteArray) : hdT (x :: ts) k s = (decide (x.kind = k) && decide (x.text = s)) := rfl
@[simp] theorem hdT_nil (k : Int) (s : ByteArray) : hdT [] k s = false := rfl
/-! ### Types -/
end Go.Proofs.YtmaokphbfjpodaaGreatDoor.E

/- The words of a term, and the steps of its reader on them, in plain Lean. No conditions. -/
set_option linter.unusedVariables false
set_option linter.unusedSimpArgs false
namespace Go.Proofs.YtmaokphbfjpodaaGreatDoor.E
open Go

/-! ### Where a term stops -/
def notIn (rest : List Tk) (q : List (List UInt8)) : Prop := ∀ s ∈ q, hdT rest 4 (bw s) = false
def q4 : List (List UInt8) := [[40]]
def q2 : List (List UInt8) := [[40], [42], [47]]
def q1 : List (List UInt8) := [[40], [42], [47], [43], [45]]
def q0 : List (List UInt8) := [[40], [42], [47], [43], [45], [60], [61], [45, 62]]
theorem notIn.sub {rest : List Tk} {q q' : List (List UInt8)} (h : notIn rest q) (hs : ∀ s ∈ q', s ∈ q) : notIn rest q' := fun s hq => h s (hs s hq)
/-! ### Steps -/
/-! ### How a term begins -/
/-- No sign or key of a binder. -/
def NoB (ts : List Tk) : Prop := hdT ts 4 ⟨#[92]⟩ = false ∧ hdT ts 3 ⟨#[108, 101, 116]⟩ = false ∧ hdT ts 3 ⟨#[105, 102]⟩ = false ∧ hdT ts 3 ⟨#[114, 101, 99]⟩ = false ∧ hdT ts 3 ⟨#[99, 97, 115, 101]⟩ = false
/-! ### What is read at the levels -/
def C3 (l : List Wd) (t : Tm) (ts : List Tk) : Prop := ∀ n i rest, toksW l i = ts ++ rest → l.length ≤ n + i → notIn rest q4 → ∃ t' m j, pMul l (pTerm l n) i = opLoop l (pU l (pTerm l n)) [⟨#[42]⟩, ⟨#[47]⟩] m t' j ∧ cl t' = cl t ∧ i < j ∧ l.length + 1 + i ≤ m + j ∧ toksW l j = rest
def C2 (l : List Wd) (t : Tm) (ts : List Tk) : Prop := ∀ n i rest, toksW l i = ts ++ rest → l.length ≤ n + i → notIn rest q2 → ∃ t' m j, pSum l (pTerm l n) i = opLoop l (pMul l (pTerm l n)) [⟨#[43]⟩, ⟨#[45]⟩] m t' j ∧ cl t' = cl t ∧ i < j ∧ l.length + 1 + i ≤ m + j ∧ toksW l j = rest
def C1 (l : List Wd) (t : Tm) (ts : List Tk) : Prop := ∀ n i rest, toksW l i = ts ++ rest → l.length ≤ n + i → notIn rest q0 → ∃ t' j, pCmp l (pTerm l n) i = .ok t' j ∧ cl t' = cl t ∧ i < j ∧ toksW l j = rest
def C0 (l : List Wd) (t : Tm) (ts : List Tk) : Prop := (∀ rest, NoB (ts ++ rest)) ∧ ∀ n i rest, toksW l i = ts ++ rest → l.length ≤ n + i → notIn rest q0 → ∃ t' m j, pIs l (pTerm l n) i = isLoop l m t' j ∧ cl t' = cl t ∧ i < j ∧ l.length + 1 + i ≤ m + j ∧ toksW l j = rest
end Go.Proofs.YtmaokphbfjpodaaGreatDoor.E

/- Each kind of term is read as it is told, in plain Lean. No conditions. -/
set_option linter.unusedVariables false
set_option linter.unusedSimpArgs false
namespace Go.Proofs.YtmaokphbfjpodaaGreatDoor.E
open Go

end Go.Proofs.YtmaokphbfjpodaaGreatDoor.E

/- Any term that may be told is read as it is told, in plain Lean. No conditions. -/
set_option linter.unusedVariables false
set_option linter.unusedSimpArgs false
namespace Go.Proofs.YtmaokphbfjpodaaGreatDoor.E
open Go

end Go.Proofs.YtmaokphbfjpodaaGreatDoor.E

/- What is told is scanned as the words it was told in, in plain Lean. No conditions. -/
set_option linter.unusedVariables false
set_option linter.unusedSimpArgs false
namespace Go.Proofs.YtmaokphbfjpodaaGreatDoor.E
open Go

/-! ### Words -/
/-! ### Numbers -/
theorem numL_app : ∀ (a : List UInt8) (n : Nat) (c : UInt8), numL n (a ++ [c]) = match numL n a with
    | none => none
    | some v => if v > (9223372036854775807 - (c.toNat - 48)) / 10 then none else some (v * 10 + (c.toNat - 48))
  | [], n, c => rfl
  | x :: a, n, c => by
    rw [List.cons_append, numL, numL]
    split
    · rfl
    · exact numL_app a _ c
theorem dig_nat {d : Nat} (h : d < 10) : (UInt8.ofNat (48 + d)).toNat = 48 + d := by simp; omega
end Go.Proofs.YtmaokphbfjpodaaGreatDoor.E

/- Digits without a leading nought are the decimal form of their number. No conditions. -/
set_option linter.unusedVariables false
set_option linter.unusedSimpArgs false
namespace Go.Proofs.YtmaokphbfjpodaaGreatDoor.E
open Go

theorem dec_unique : ∀ (n : Nat) (ds : List UInt8) (v : Nat), ds.length = n → (∀ c ∈ ds, digitF c.toNat = true) → ds ≠ [] → (∀ c l, ds = c :: l → l ≠ [] → c ≠ 48) → numL 0 ds = some v → ds = Lib.decDigits v
  | 0, ds, v, hn, hd, hne, h0, hv => absurd (List.eq_nil_of_length_eq_zero hn) hne
  | n + 1, ds, v, hn, hd, hne, h0, hv => by
    obtain ⟨a, c, rfl⟩ : ∃ a c, ds = a ++ [c] := ⟨ds.dropLast, ds.getLast hne, (List.dropLast_concat_getLast hne).symm⟩
    have hc := hd c (by simp)
    simp only [digitF, Bool.and_eq_true, decide_eq_true_eq] at hc
    obtain ⟨d, hd9, hcd⟩ : ∃ d : Nat, d < 10 ∧ c = UInt8.ofNat (48 + d) := ⟨c.toNat - 48, by omega, by
      apply UInt8.toNat_inj.1
      rw [dig_nat (by omega)]; omega⟩
    have hct : c.toNat - 48 = d := by rw [hcd, dig_nat hd9]; omega
    rw [numL_app] at hv
    cases hu : numL 0 a with
    | none => rw [hu] at hv; cases hv
    | some u =>
      rw [hu] at hv
      simp only at hv
      split at hv
      · cases hv
      · rw [hct] at hv
        obtain rfl : u * 10 + d = v := Option.some.inj hv
        cases a with
        | nil =>
          have : u = 0 := by simp [numL] at hu; omega
          subst this
          rw [Lib.decDigits, dif_pos (by omega), hcd]
          simp
        | cons b a =>
          have ih := dec_unique n (b :: a) u (by simp at hn ⊢; omega) (fun c hc => hd c (List.mem_append.2 (.inl hc))) (by simp) (fun c' l' e hl => h0 c' (l' ++ [c]) (by rw [e]; rfl) (by simp)) hu
          have hb := h0 b (a ++ [c]) rfl (by simp)
          have hu1 : u ≠ 0 := fun e => by
            subst e
            rw [Lib.decDigits, dif_pos (by omega)] at ih
            exact hb (List.cons.inj ih).1
          rw [Lib.decDigits, dif_neg (by omega), show (u * 10 + d) / 10 = u by omega, show (u * 10 + d) % 10 = d by omega, ← ih, ← hcd]
end Go.Proofs.YtmaokphbfjpodaaGreatDoor.E
