/- Texts, merged: St1, St2, St3, St4, Lay173, Lay156, St6, St5A. No conditions. -/
import Derived.Test.YtmaokphbfjpodaaGreatDoorGenX9
import Derived.Test.YtmaokphbfjpodaaGreatDoorGenX3
import Derived.Test.YtmaokphbfjpodaaGreatDoorEngX3
import Derived.Test.YtmaokphbfjpodaaGreatDoorTab
import Derived.Shelf.Strconv.Itoa4
import Derived.KernelRfl
import Derived.Shelf.Strings.OnBuilder
import Derived.Lib.AppendIntMem
/- Walks: types.tight, sign, write, Text. No conditions. -/
set_option linter.unusedVariables false
set_option linter.unusedSimpArgs false
namespace Go.Proofs.YtmaokphbfjpodaaGreatDoor.E
open Go

theorem tkinds {k : Int} {n : Nat} (h : parts k = n) : k = 0 ∨ k = 1 ∨ k = 2 ∨ k = 3 ∨ k = 4 ∨ k = 5 := by
  unfold parts at h
  split at h
  · omega
  · split at h
    · omega
    · omega
set_option maxRecDepth 10000 in
theorem tight_call (k : Int) (hk : k = 0 ∨ k = 1 ∨ k = 2 ∨ k = 3 ∨ k = 4 ∨ k = 5) : ACall Tryz.prog 161 [.c (.d (.int .i8 k))] [] (fun o σ => o = .ret (.c (.d (.int .i64 (ttight k)))) ∧ σ = []) := by
  rcases hk with rfl | rfl | rfl | rfl | rfl | rfl
  all_goals
    refine ACall.body tab_ok (ρ := 0) (N := 8) Tryz.func161 rfl rfl rfl rfl rfl ?_
    repeat' first | ((refine ⟨by decide, ?_⟩; conv => whnf)) | refine AW.seq ?_ | refine AW.block ?_ | ((first | refine AW.region tab_ok ?_ | refine AW.cond ?_ | refine AW.skip ?_ | refine AW.ret ?_ | refine AW.exit ?_); conv => whnf) | ((first | refine And.intro (@rfl Val _) ?_ | refine And.intro (by decide) ?_ | refine cs (fun _ => ?_) (fun _ => ?_)) <;> conv => whnf)
    exact ⟨rfl, rfl⟩
set_option maxRecDepth 10000 in
theorem sign_call (k : Int) (hk : k = 0 ∨ k = 1 ∨ k = 2 ∨ k = 3 ∨ k = 4 ∨ k = 5) : ACall Tryz.prog 162 [.c (.d (.int .i8 k))] [] (fun o σ => o = .ret (.c (.d (.str (bw (tsign k))))) ∧ σ = []) := by
  rcases hk with rfl | rfl | rfl | rfl | rfl | rfl
  all_goals
    refine ACall.body tab_ok (ρ := 0) (N := 8) Tryz.func162 rfl rfl rfl rfl rfl ?_
    repeat' first | ((refine ⟨by decide, ?_⟩; conv => whnf)) | refine AW.seq ?_ | refine AW.block ?_ | ((first | refine AW.region tab_ok ?_ | refine AW.cond ?_ | refine AW.skip ?_ | refine AW.ret ?_ | refine AW.exit ?_); conv => whnf) | ((first | refine And.intro (@rfl Val _) ?_ | refine And.intro (by decide) ?_ | refine cs (fun _ => ?_) (fun _ => ?_)) <;> conv => whnf)
    exact ⟨rfl, rfl⟩
theorem tsign_len (k : Int) : 0 < (tsign k).length ∧ (tsign k).length ≤ 4 := by
  unfold tsign
  repeat' split
  all_goals decide
theorem u8e (b : List (List DV)) (c s : List UInt8) (h : b = u8rows c) : b ++ u8rows (bw s).data.toList = u8rows (c ++ s) := by rw [h, u8rows_app]; rfl
theorem u8one (b : List (List DV)) (c : List UInt8) (x : UInt8) (n : Int) (hn : n = x.toNat) (h : b = u8rows c) : b ++ [[.int .u8 n]] = u8rows (c ++ [x]) := by rw [h, u8rows_app, hn]; rfl
theorem len2 {α : Type} {l : List α} (h : l.length = 2) : ∃ x y, l = [x, y] := by
  match l, h with
  | [x, y], _ => exact ⟨x, y, rfl⟩
def WriteR (a : Ty) (least : Int) (out : List UInt8) : Prop := ∀ (b : List UInt8) (n : Nat) (rows : List (List DV)), rows = u8rows b → n = rows.length → b.length + out.length ≤ 1000000000 →
  ACall Tryz.prog 153 [.c (.own 0 n), a.val, .c (.d (.int .i64 least))] [.row 5 1 rows]
    (fun o σ => o = .ret (.c (.own 0 (u8rows (b ++ out)).length)) ∧ σ = [.row 5 1 (u8rows (b ++ out))])
theorem wfin {a b : List (List DV)} {n t : Nat} (h : a = b) (hn : n = a.length) : Out.ret (.c (.own 0 n)) = Out.ret (.c (.own 0 b.length)) ∧ [AObj.row t 1 a] = [AObj.row t 1 b] := by subst h; subst hn; exact ⟨rfl, rfl⟩
theorem bw_size (s : List UInt8) : (bw s).size = s.length := rfl
set_option maxRecDepth 10000 in
set_option maxHeartbeats 2000000 in
theorem write_call (a : Ty) : tright a = true → ∀ least, WriteR a least (tyW least a) := by
  induction a using Ty.ind with
  | _ k ks ih =>
  intro hr
  have hpl := tright_len hr
  have hk := tkinds hpl
  have c1 := tight_call k hk
  have c2 := sign_call k hk
  have hsl := tsign_len k
  have hO : ∀ least, ¬ ttight k < least → WriteR (.node k ks) least (tyO (.node k ks)) := by
    intro least hl b n rows hrows hn hb
    have hlt : decide (ttight k < least) = false := by simp [hl]
    have hn' : n = b.length := by rw [hn, hrows, u8rows_len]
    subst hrows
    have leaf : ks = [] → tyO (.node k ks) = tsign k := fun e => by subst e; rfl
    by_cases h3 : k < 3
    · have hks : ks = [] := List.eq_nil_of_length_eq_zero (by rcases hk with rfl | rfl | rfl | rfl | rfl | rfl <;> simp [parts] at hpl h3 <;> omega)
      subst hks
      rw [leaf rfl] at hb ⊢
      rcases hk with rfl | rfl | rfl | rfl | rfl | rfl
      all_goals first
        | exact absurd h3 (by decide)
        | skip
          refine ACall.body tab_ok (ρ := 0) (N := 60) Tryz.func153 rfl rfl rfl rfl rfl ?_
          repeat' first | ((rw [hlt]; conv => whnf)) | ((refine ⟨⟨hn, hsl.1, by simp only [bnd, u8rows_len, bw_size]; omega⟩, ?_⟩; conv => whnf)) | refine AW.seq ?_ | refine AW.block ?_ | (refine (_root_.id : AW _ _ _ (.region 3 _ true) _ _ → _) ?_; refine AW.draw (id := 3) tab_ok mixed [0, 1, 3, 5, 2, 4, 6, 7] (by kernel_rfl) ?_; conv => whnf) | ((first | refine AW.region tab_ok ?_ | refine AW.cond ?_ | refine AW.skip ?_ | refine AW.ret ?_ | refine AW.exit ?_); conv => whnf) | ((first | refine (c1).mono ?_ | refine (c2).mono ?_); rintro _ _ ⟨rfl, rfl⟩; conv => whnf) | ((first | refine And.intro (@rfl Val _) ?_ | refine And.intro (by decide) ?_ | refine cs (fun _ => ?_) (fun _ => ?_)) <;> conv => whnf)
          exact wfin (u8e _ b _ rfl) (by rw [List.length_append]; rfl)
    · obtain ⟨x, y, rfl⟩ : ∃ x y, ks = [x, y] := len2 (by rcases hk with rfl | rfl | rfl | rfl | rfl | rfl <;> simp [parts] at hpl h3 <;> omega)
      have hO : tyO (.node k [x, y]) = tyW (tleft k) x ++ tsign k ++ tyW (tright2 k) y := rfl
      rw [hO] at hb ⊢
      simp only [List.length_append] at hb
      have hx : tright x = true := tright_kid hr (by simp)
      have hy : tright y = true := tright_kid hr (by simp)
      have cx := ih x (by simp) hx (tleft k) b n _ rfl hn (by omega)
      have cy := ih y (by simp) hy (tright2 k) (b ++ tyW (tleft k) x ++ tsign k)
      generalize tyW (tleft k) x = sx at hb cx cy ⊢
      generalize tyW (tright2 k) y = sy at hb cy ⊢
      clear hO
      obtain ⟨kx, lx⟩ := x
      obtain ⟨ky, ly⟩ := y
      rcases hk with rfl | rfl | rfl | rfl | rfl | rfl
      all_goals first
        | exact absurd (by decide) h3
        | skip
          refine ACall.body tab_ok (ρ := 0) (N := 60) Tryz.func153 rfl rfl rfl rfl rfl ?_
          repeat' first | ((rw [hlt]; conv => whnf)) | ((refine ⟨⟨rfl, hsl.1, by simp only [bnd, u8rows_len, bw_size, List.length_append]; omega⟩, ?_⟩; conv => whnf)) | ((refine And.intro (⟨by decide, by first | decide | (simp [Ty.rows]; done) | (simp [Ty.rows]; decide)⟩ : _ ∧ _) ?_; conv => whnf)) | ((intro row hrow; obtain rfl := Option.some.inj hrow; conv => whnf)) | refine AW.seq ?_ | refine AW.block ?_ | (refine (_root_.id : AW _ _ _ (.region 3 _ true) _ _ → _) ?_; refine AW.draw (id := 3) tab_ok mixed [0, 1, 3, 5, 2, 4, 6, 7] (by kernel_rfl) ?_; conv => whnf) | ((first | refine AW.region tab_ok ?_ | refine AW.cond ?_ | refine AW.skip ?_ | refine AW.ret ?_ | refine AW.exit ?_); conv => whnf) | ((first | refine (c1).mono ?_ | refine (c2).mono ?_ | refine (cx).mono ?_ | refine (cy _ _ (u8e _ _ _ rfl) (by rw [List.length_append]; rfl) (by simp only [List.length_append]; omega)).mono ?_); rintro _ _ ⟨rfl, rfl⟩; conv => whnf) | ((first | refine And.intro (@rfl Val _) ?_ | refine And.intro (by decide) ?_ | refine cs (fun _ => ?_) (fun _ => ?_)) <;> conv => whnf)
          exact wfin (congrArg u8rows (by simp only [List.append_assoc])) rfl
  intro least b n rows hrows hn hb
  by_cases hl : ttight k < least
  · have hlt : decide (ttight k < least) = true := by simp [hl]
    have hn' : n = b.length := by rw [hn, hrows, u8rows_len]
    have hO' : tyW least (.node k ks) = 40 :: (tyO (.node k ks) ++ [41]) := by simp [tyW, tbr, tyK, hl]
    subst hrows
    rw [hO'] at hb ⊢
    simp only [List.length_append, List.length_cons, List.length_nil] at hb
    have ht0 : ¬ ttight k < 0 := by rcases hk with rfl | rfl | rfl | rfl | rfl | rfl <;> decide
    have c3 := hO 0 ht0 (b ++ [40])
    refine ACall.body tab_ok (ρ := 0) (N := 60) Tryz.func153 rfl rfl rfl rfl rfl ?_
    repeat' first | ((rw [hlt]; conv => whnf)) | ((refine ⟨⟨by first | exact hn | rfl, by simp only [bnd, u8rows_len, List.length_append, List.length_cons, List.length_nil]; omega⟩, ?_⟩; conv => whnf)) | refine AW.seq ?_ | refine AW.block ?_ | (refine (_root_.id : AW _ _ _ (.region 3 _ true) _ _ → _) ?_; refine AW.draw (id := 3) tab_ok mixed [0, 1, 3, 5, 2, 4, 6, 7] (by kernel_rfl) ?_; conv => whnf) | ((first | refine AW.region tab_ok ?_ | refine AW.cond ?_ | refine AW.skip ?_ | refine AW.ret ?_ | refine AW.exit ?_); conv => whnf) | ((first | refine (c1).mono ?_ | refine (c3 _ _ (u8one _ _ _ _ rfl rfl) (by rw [List.length_append]; rfl) (by simp only [List.length_append, List.length_cons, List.length_nil]; omega)).mono ?_); rintro _ _ ⟨rfl, rfl⟩; conv => whnf) | ((first | refine And.intro (@rfl Val _) ?_ | refine And.intro (by decide) ?_ | refine cs (fun _ => ?_) (fun _ => ?_)) <;> conv => whnf)
    refine wfin ?_ ?_
    · refine Eq.trans (u8one _ (b ++ [40] ++ tyO (.node k ks)) 41 41 rfl rfl) ?_
      exact congrArg u8rows (by simp only [List.append_assoc, List.cons_append, List.nil_append])
    · first | rfl | (rw [List.length_append]; done) | (rw [List.length_append]; rfl)
  · have hO' : tyW least (.node k ks) = tyO (.node k ks) := by simp [tyW, tbr, tyK, hl]
    rw [hO'] at hb ⊢
    exact hO least hl b n rows hrows hn hb
end Go.Proofs.YtmaokphbfjpodaaGreatDoor.E

/- Walks: types.Text; the document's text of a type. No conditions. -/
set_option linter.unusedVariables false
set_option linter.unusedSimpArgs false
namespace Go.Proofs.YtmaokphbfjpodaaGreatDoor.E
open Go

theorem tsign_le (k : Int) : (tsign k).length ≤ 4 := (tsign_len k).2
theorem tbr_le (l k : Int) (s : List UInt8) : (tbr l k s).length ≤ s.length + 2 := by
  unfold tbr
  split <;> simp
mutual
theorem tyO_len : ∀ t : Ty, (tyO t).length + 2 ≤ 6 * nodes t
  | .node k ks => by
    have h := tyOL_len ks
    have hs := tsign_le k
    simp only [tyO, nodes]
    unfold tyJ
    split
    · rename_i p q e
      rw [e] at h
      simp only [List.map_cons, List.map_nil, List.sum_cons, List.sum_nil] at h
      have h1 := tbr_le (tleft k) p.1 p.2
      have h2 := tbr_le (tright2 k) q.1 q.2
      simp only [List.length_append]
      omega
    · omega
theorem tyOL_len : ∀ ks : List Ty, ((tyOL ks).map fun p => p.2.length + 2).sum ≤ 6 * nodesL ks
  | [] => Nat.le_refl _
  | t :: l => by
    have h1 := tyO_len t
    have h2 := tyOL_len l
    simp only [tyOL, nodesL, List.map_cons, List.sum_cons]
    omega
end
theorem tyW_len (l : Int) (t : Ty) : (tyW l t).length ≤ 6 * nodes t := by
  have h1 := tyO_len t
  have h2 := tbr_le l (tyK t) (tyO t)
  unfold tyW
  omega
theorem tcheck_nodes {t : Ty} (h : tcheck t = 0) : nodes t ≤ 8192 := by
  unfold tcheck at h
  split at h
  · cases h
  · omega
theorem ttight0 (k : Int) : ¬ ttight k < 0 := by
  unfold ttight
  repeat' split
  all_goals decide
theorem tyW0 (t : Ty) : tyW 0 t = tyO t := by
  unfold tyW tbr
  rw [if_neg (ttight0 _)]
set_option maxRecDepth 10000 in
theorem text_call (t : Ty) : ACall Tryz.prog 136 [t.val] [] (fun o σ => o = .ret (.tup [.c (.d (.str (if tcheck t = 0 then bw (tyO t) else bw []))), .c (.d (.int .i64 (tcheck t)))]) ∧ σ = []) := by
  have c1 := check_call t
  by_cases h : tcheck t = 0
  · rw [if_pos h]
    rw [h] at c1 ⊢
    have hn := tcheck_nodes h
    have hl := tyW_len 0 t
    have c2 := ACall.ghost (σ := []) (xs := [.c (.d .nils), t.val, .c (.d (.int .i64 0))]) (ys := [.c (.own 0 (0 : Nat)), t.val, .c (.d (.int .i64 0))]) 5 1 (by decide) ⟨.inr ⟨rfl, rfl⟩, .inl rfl, .inl rfl, trivial⟩ (write_call t (tcheck_right h) 0 [] 0 [] rfl rfl (by simp; omega))
    rw [tyW0, List.nil_append] at c2
    obtain ⟨k, ks⟩ := t
    refine ACall.body tab_ok (ρ := 0) (N := 13) Tryz.func136 rfl rfl rfl rfl rfl ?_
    repeat' first | ((refine ⟨rfl, _, rfl, ?_⟩; conv => whnf)) | refine AW.seq ?_ | refine AW.block ?_ | ((first | refine AW.region tab_ok ?_ | refine AW.cond ?_ | refine AW.skip ?_ | refine AW.ret ?_ | refine AW.exit ?_); conv => whnf) | ((first | refine (c1).mono ?_ | refine (c2).mono ?_); rintro _ _ ⟨rfl, rfl⟩; conv => whnf) | ((first | refine And.intro (@rfl Val _) ?_ | refine And.intro (by decide) ?_ | refine cs (fun _ => ?_) (fun _ => ?_)) <;> conv => whnf)
    exact ⟨rfl, rfl⟩
  · rw [if_neg h]
    have hd : decide (tcheck t = 0) = false := by simp [h]
    generalize tcheck t = e at *
    obtain ⟨k, ks⟩ := t
    refine ACall.body tab_ok (ρ := 0) (N := 13) Tryz.func136 rfl rfl rfl rfl rfl ?_
    repeat' first | refine AW.seq ?_ | refine AW.block ?_ | ((first | refine AW.region tab_ok ?_ | refine AW.cond ?_ | refine AW.skip ?_ | refine AW.ret ?_ | refine AW.exit ?_); conv => whnf) | (refine (c1).mono ?_; rintro _ _ ⟨rfl, rfl⟩; conv => whnf) | ((first | refine And.intro (@rfl Val _) ?_ | refine And.intro (by decide) ?_ | refine cs (fun _ => ?_) (fun _ => ?_)) <;> conv => whnf)
    all_goals first | exact ⟨rfl, rfl⟩ | (rename_i h3; exact absurd (by simpa using h3) h)

/-! ### The document's -/
end Go.Proofs.YtmaokphbfjpodaaGreatDoor.E

/- Walks: the writer's words: put, kind, strength. No conditions. -/
set_option linter.unusedVariables false
set_option linter.unusedSimpArgs false
namespace Go.Proofs.YtmaokphbfjpodaaGreatDoor.E
open Go

theorem strs_app (l m : List ByteArray) : strs (l ++ m) = strs l ++ strs m := by simp [strs]
def wObj (ws : List ByteArray) : List AObj := [.var [.fn 30 [] [.ptr 1 0]], .var [.own 2 (strs ws).length], .row 9 1 (strs ws)]
theorem put_call (ws vs : List ByteArray) (h : ws.length + vs.length ≤ 1000000000) : ACall Tryz.prog 30 [.c (.d (.sl 0 1 (strs vs))), .c (.ptr 0 0)] [.var [.own 1 (strs ws).length], .row 9 1 (strs ws)]
    (fun o σ => o = .ret (.tup []) ∧ σ = [.var [.own 1 (strs (ws ++ vs)).length], .row 9 1 (strs (ws ++ vs))]) := by
  rw [strs_app, List.length_append]
  refine ACall.body tab_ok (ρ := 0) (N := 6) Tryz.func30 rfl rfl rfl rfl rfl ?_
  repeat' first | ((refine ⟨⟨rfl, by simp only [bnd, strs_len]; omega⟩, ?_⟩; conv => whnf)) | refine AW.seq ?_ | refine AW.block ?_ | ((first | refine AW.region tab_ok ?_ | refine AW.cond ?_ | refine AW.skip ?_ | refine AW.ret ?_ | refine AW.exit ?_); conv => whnf) | ((first | refine And.intro (@rfl Val _) ?_ | refine And.intro (by decide) ?_ | refine cs (fun _ => ?_) (fun _ => ?_)) <;> conv => whnf)
  exact ⟨rfl, rfl⟩
set_option maxRecDepth 10000 in
theorem wkind_call (t : Ty) (ht : tcheck t = 0) (ws : List ByteArray) (h : ws.length < 1000000000) : ACall Tryz.prog 109 [.c (.ptr 0 0), t.val] (wObj ws) (fun o σ => o = .ret (.tup []) ∧ σ = wObj (ws ++ [bw (tyO t)])) := by
  have c1 := text_call t
  rw [if_pos ht, ht] at c1
  have c2 := put_call ws [bw (tyO t)] (by simp; omega)
  generalize bw (tyO t) = s at *
  obtain ⟨k, ks⟩ := t
  unfold wObj
  refine ACall.body tab_ok (ρ := 0) (N := 18) Tryz.func109 rfl rfl rfl rfl rfl ?_
  repeat' first | refine AW.seq ?_ | refine AW.block ?_ | ((first | refine AW.region tab_ok ?_ | refine AW.cond ?_ | refine AW.skip ?_ | refine AW.ret ?_ | refine AW.exit ?_); conv => whnf) | ((first | refine (c1).mono ?_ | refine (c2).mono ?_); rintro _ _ ⟨rfl, rfl⟩; conv => whnf) | ((first | refine And.intro (@rfl Val _) ?_ | refine And.intro (by decide) ?_ | refine cs (fun _ => ?_) (fun _ => ?_)) <;> conv => whnf)
  exact ⟨rfl, rfl⟩

theorem tmS15 {name arg num tk tks uk uks label place ks} : tmS (.node 15 name arg num tk tks uk uks label place ks) = if (decide (name = ⟨#[60]⟩) || decide (name = ⟨#[61]⟩)) = true then 1 else if (decide (name = ⟨#[43]⟩) || decide (name = ⟨#[45]⟩)) = true then 2 else 3 := by
  show (if name = bw [60] ∨ name = bw [61] then (1 : Int) else if name = bw [43] ∨ name = bw [45] then 2 else 3) = _
  simp only [Bool.or_eq_true, decide_eq_true_eq]
  rfl
set_option maxRecDepth 10000 in
theorem strength_call (t : Tm) (ht : tmright t = true) : ACall Tryz.prog 55 [.c (.d (.rp 0 t.cells))] [] (fun o σ => o = .ret (.c (.d (.int .i64 (tmS t)))) ∧ σ = []) := by
  obtain ⟨k, name, arg, num, tk, tks, uk, uks, label, place, ks⟩ := t
  have hv := tmright_valid ht
  rcases kinds k hv with rfl | rfl | rfl | rfl | rfl | rfl | rfl | rfl | rfl | rfl | rfl | rfl | rfl | rfl | rfl | rfl | rfl | rfl
  all_goals
    refine ACall.body tab_ok (ρ := 0) (N := 39) Tryz.func55 rfl rfl rfl rfl rfl ?_
    repeat' first | refine AW.seq ?_ | refine AW.block ?_ | ((first | refine AW.region tab_ok ?_ | refine AW.cond ?_ | refine AW.skip ?_ | refine AW.ret ?_ | refine AW.exit ?_); conv => whnf) | ((first | refine And.intro (@rfl Val _) ?_ | refine And.intro (by decide) ?_ | refine cs (fun _ => ?_) (fun _ => ?_)) <;> conv => whnf)
    all_goals first
      | exact ⟨rfl, rfl⟩
      | (refine ⟨?_, rfl⟩; simp_all [oneOf, tmS]; done)
      | (refine ⟨?_, rfl⟩; rename_i h1; rw [tmS15]; simp only [*, Bool.or_true, Bool.true_or, Bool.or_false, Bool.false_eq_true, if_false, if_true, oneOf]; done)
     
end Go.Proofs.YtmaokphbfjpodaaGreatDoor.E

/- What the writer's walks say. No conditions. -/
set_option linter.unusedVariables false
set_option linter.unusedSimpArgs false
namespace Go.Proofs.YtmaokphbfjpodaaGreatDoor.E
open Go

def AtC (t : Tm) : Prop := ∀ (least : Int) (ws : List ByteArray), ws.length + (tmA least t).length ≤ 1000000000 →
  ACall Tryz.prog 31 [.c (.ptr 0 0), .c (.d (.rp 0 t.cells)), .c (.d (.int .i64 least))] (wObj ws) (fun o σ => o = .ret (.tup []) ∧ σ = wObj (ws ++ tmA least t))
def WordsC (f : Nat) (t : Tm) : Prop := ∀ ws : List ByteArray, ws.length + (tmW t).length ≤ 1000000000 →
  ACall Tryz.prog f [.c (.ptr 0 0), .c (.d (.rp 0 t.cells))] (wObj ws) (fun o σ => o = .ret (.tup []) ∧ σ = wObj (ws ++ tmW t))
end Go.Proofs.YtmaokphbfjpodaaGreatDoor.E

/- A function of Go's library laid at this translation: its code is the one that the library's contract speaks of. No conditions. -/
namespace Go.Proofs.YtmaokphbfjpodaaGreatDoor.E
open Go.Shelf
def lays173_ren : Go.Shelf.Ren := ⟨fun | 173 => 25 | 246 => 48 | 283 => 99 | 284 => 100 | 285 => 101 | 286 => 102 | 129 => 128 | 317 => 127 | 318 => 129 | 319 => 130 | 320 => 131 | 337 => 151 | 338 => 152 | n => n, fun | 2 => 2 | 3 => 3 | 9 => 9 | 4 => 4 | 171 => 166 | 0 => 0 | 53 => 167 | 37 => 125 | 5 => 5 | 173 => 170 | 212 => 182 | 51 => 183 | 20 => 20 | 213 => 184 | 46 => 186 | 232 => 209 | 233 => 210 | n => n, fun | 17 => 1 | 18 => 3 | 19 => 4 | n => n⟩
set_option maxRecDepth 100000 in
theorem lays173 : Go.Proofs.LaysM.n173 Tryz.prog lays173_ren where
  mixed := by kernel_rfl
  f129 := Tryz.func128.trans (congrArg some (by kernel_rfl))
  f173 := Tryz.func25.trans (congrArg some (by kernel_rfl))
  f246 := Tryz.func48.trans (congrArg some (by kernel_rfl))
  f283 := Tryz.func99.trans (congrArg some (by kernel_rfl))
  f284 := Tryz.func100.trans (congrArg some (by kernel_rfl))
  f285 := Tryz.func101.trans (congrArg some (by kernel_rfl))
  f286 := Tryz.func102.trans (congrArg some (by kernel_rfl))
  f317 := Tryz.func127.trans (congrArg some (by kernel_rfl))
  f318 := Tryz.func129.trans (congrArg some (by kernel_rfl))
  f319 := Tryz.func130.trans (congrArg some (by kernel_rfl))
  f320 := Tryz.func131.trans (congrArg some (by kernel_rfl))
  f337 := Tryz.func151.trans (congrArg some (by kernel_rfl))
  f338 := Tryz.func152.trans (congrArg some (by kernel_rfl))
  t0 := Tryz.underlying0
  a0 := Tryz.isAgg0
  z0 := Tryz.sizeOf0
  v0 := Tryz.zeroValue0
  t2 := Tryz.underlying2
  a2 := Tryz.isAgg2
  z2 := Tryz.sizeOf2
  v2 := Tryz.zeroValue2
  t3 := Tryz.underlying3
  a3 := Tryz.isAgg3
  z3 := Tryz.sizeOf3
  v3 := Tryz.zeroValue3
  t4 := Tryz.underlying4
  a4 := Tryz.isAgg4
  z4 := Tryz.sizeOf4
  v4 := Tryz.zeroValue4
  t5 := Tryz.underlying5
  a5 := Tryz.isAgg5
  z5 := Tryz.sizeOf5
  v5 := Tryz.zeroValue5
  t9 := Tryz.underlying9
  a9 := Tryz.isAgg9
  z9 := Tryz.sizeOf9
  v9 := Tryz.zeroValue9
  t20 := Tryz.underlying20
  a20 := Tryz.isAgg20
  z20 := Tryz.sizeOf20
  v20 := Tryz.zeroValue20
  t37 := Tryz.underlying125
  a37 := Tryz.isAgg125
  z37 := Tryz.sizeOf125
  v37 := Tryz.zeroValue125
  t46 := Tryz.underlying186
  a46 := Tryz.isAgg186
  z46 := Tryz.sizeOf186
  v46 := Tryz.zeroValue186
  t51 := Tryz.underlying183
  a51 := Tryz.isAgg183
  z51 := Tryz.sizeOf183
  v51 := Tryz.zeroValue183
  t53 := Tryz.underlying167
  a53 := Tryz.isAgg167
  z53 := Tryz.sizeOf167
  v53 := Tryz.zeroValue167
  t171 := Tryz.underlying166
  a171 := Tryz.isAgg166
  z171 := Tryz.sizeOf166
  v171 := Tryz.zeroValue166
  t173 := Tryz.underlying170
  a173 := Tryz.isAgg170
  z173 := Tryz.sizeOf170
  v173 := Tryz.zeroValue170
  t212 := Tryz.underlying182
  a212 := Tryz.isAgg182
  z212 := Tryz.sizeOf182
  v212 := Tryz.zeroValue182
  t213 := Tryz.underlying184
  a213 := Tryz.isAgg184
  z213 := Tryz.sizeOf184
  t232 := Tryz.underlying209
  a232 := Tryz.isAgg209
  z232 := Tryz.sizeOf209
  v232 := Tryz.zeroValue209
  t233 := Tryz.underlying210
  a233 := Tryz.isAgg210
  z233 := Tryz.sizeOf210
  v233 := Tryz.zeroValue210
  g17 := by kernel_rfl
  g18 := by kernel_rfl
  g19 := by kernel_rfl
  i0 := by kernel_rfl
  i2 := by kernel_rfl
  i3 := by kernel_rfl
  i4 := by kernel_rfl
  i5 := by kernel_rfl
  i9 := by kernel_rfl
  i20 := by kernel_rfl
  i37 := by kernel_rfl
  i46 := by kernel_rfl
  i51 := by kernel_rfl
  i53 := by kernel_rfl
  i171 := by kernel_rfl
  i173 := by kernel_rfl
  i212 := by kernel_rfl
  i232 := by kernel_rfl
  i233 := by kernel_rfl
  m17 := by kernel_rfl
  m18 := by kernel_rfl
  m19 := by kernel_rfl
end Go.Proofs.YtmaokphbfjpodaaGreatDoor.E

/- A function of Go's library laid at this translation: its code is the one that the library's contract speaks of. No conditions. -/
namespace Go.Proofs.YtmaokphbfjpodaaGreatDoor.E
open Go.Shelf
def lays156_ren : Go.Shelf.Ren := ⟨fun | 156 => 32 | 165 => 57 | 166 => 58 | 169 => 59 | 240 => 111 | 241 => 112 | 276 => 137 | 277 => 138 | n => n, fun | 31 => 73 | 9 => 9 | 3 => 3 | 4 => 4 | 0 => 0 | 20 => 20 | 72 => 127 | 76 => 129 | 70 => 124 | 37 => 125 | 75 => 31 | 127 => 174 | 164 => 98 | 5 => 5 | 80 => 131 | n => n, fun n => n⟩
set_option maxRecDepth 100000 in
theorem lays156 : Go.Proofs.Lays.n156 Tryz.prog lays156_ren where
  mixed := by kernel_rfl
  f156 := Tryz.func32.trans (congrArg some (by kernel_rfl))
  f165 := Tryz.func57.trans (congrArg some (by kernel_rfl))
  f166 := Tryz.func58.trans (congrArg some (by kernel_rfl))
  f169 := Tryz.func59.trans (congrArg some (by kernel_rfl))
  f240 := Tryz.func111.trans (congrArg some (by kernel_rfl))
  f241 := Tryz.func112.trans (congrArg some (by kernel_rfl))
  f276 := Tryz.func137.trans (congrArg some (by kernel_rfl))
  f277 := Tryz.func138.trans (congrArg some (by kernel_rfl))
  t0 := Tryz.underlying0
  a0 := Tryz.isAgg0
  z0 := Tryz.sizeOf0
  v0 := Tryz.zeroValue0
  t3 := Tryz.underlying3
  a3 := Tryz.isAgg3
  z3 := Tryz.sizeOf3
  v3 := Tryz.zeroValue3
  t4 := Tryz.underlying4
  a4 := Tryz.isAgg4
  z4 := Tryz.sizeOf4
  v4 := Tryz.zeroValue4
  t9 := Tryz.underlying9
  a9 := Tryz.isAgg9
  z9 := Tryz.sizeOf9
  v9 := Tryz.zeroValue9
  t20 := Tryz.underlying20
  a20 := Tryz.isAgg20
  z20 := Tryz.sizeOf20
  v20 := Tryz.zeroValue20
  t31 := Tryz.underlying73
  a31 := Tryz.isAgg73
  z31 := Tryz.sizeOf73
  v31 := Tryz.zeroValue73
  t37 := Tryz.underlying125
  a37 := Tryz.isAgg125
  z37 := Tryz.sizeOf125
  v37 := Tryz.zeroValue125
  t70 := Tryz.underlying124
  a70 := Tryz.isAgg124
  z70 := Tryz.sizeOf124
  v70 := Tryz.zeroValue124
  t72 := Tryz.underlying127
  a72 := Tryz.isAgg127
  z72 := Tryz.sizeOf127
  v72 := Tryz.zeroValue127
  t75 := Tryz.underlying31
  a75 := Tryz.isAgg31
  z75 := Tryz.sizeOf31
  v75 := Tryz.zeroValue31
  t76 := Tryz.underlying129
  a76 := Tryz.isAgg129
  z76 := Tryz.sizeOf129
  v76 := Tryz.zeroValue129
  t127 := Tryz.underlying174
  a127 := Tryz.isAgg174
  z127 := Tryz.sizeOf174
  v127 := Tryz.zeroValue174
  t164 := Tryz.underlying98
  a164 := Tryz.isAgg98
  z164 := Tryz.sizeOf98
  v164 := Tryz.zeroValue98
end Go.Proofs.YtmaokphbfjpodaaGreatDoor.E

/- strconv.FormatInt and strings.Join: the library's contracts in the engine's words. No conditions. -/
set_option linter.unusedVariables false
set_option linter.unusedSimpArgs false
namespace Go.Proofs.YtmaokphbfjpodaaGreatDoor.E
open Go Go.Sort Go.Shelf Go.RowKit

theorem Inv.grown {w w' : World} {C : Cz} {σ : List AObj} (h : Inv w C σ) (hsz : w.heap.size ≤ w'.heap.size) (hold : ∀ b, b < w.heap.size → w'.heap[b]? = w.heap[b]?) (hos : w'.os = w.os) (ht : w'.tape = w.tape) (hu : w'.output = w.output) :
    Inv w' C σ ∧ Ext w C σ w' C σ := by
  have hle : CzLe w C w' C := ⟨fun b r hb => ⟨hb, .inl (hold b (h.rgs b r hb))⟩, fun i e he => ⟨e, he, .refl e⟩⟩
  refine ⟨⟨h.len, fun i o e h1 h2 => (h.ok i o e h1 h2).keep hle (fun hl b hb => hold b (h.unrg i o e b h1 hl h2 hb).2), fun i o e b h1 h2 h3 h4 => ?_, h.apart, fun b r hb => Nat.lt_of_lt_of_le (h.rgs b r hb) hsz, h.glb.le hle⟩,
    ⟨hos, ht, hu, hsz, hle, fun b hb _ _ => hold b hb, fun _ h => .inl h, fun _ _ h => .inl h⟩⟩
  obtain ⟨g1, g2⟩ := h.unrg i o e b h1 h2 h3 h4
  exact ⟨g1, Nat.lt_of_lt_of_le g2 hsz⟩
theorem two_vs' {w : World} {C : Cz} {vs : Array Value} {x y : Val} (h : RepVs w C vs.toList [x, y]) : ∃ u v, vs = #[u, v] ∧ RepV w C u x ∧ RepV w C v y := by
  have hl : vs.size = 2 := by have := h.1; simpa using this
  obtain ⟨u, v, rfl⟩ : ∃ u v, vs = #[u, v] := by
    match vs, hl with
    | ⟨[u, v]⟩, _ => exact ⟨u, v, rfl⟩
  exact ⟨u, v, rfl, h.2 0 u x rfl rfl, h.2 1 v y rfl rfl⟩
theorem pow10_name : Tryz.prog.globalNamed "internal/strconv.uint64pow10" = some 1 := by kernel_rfl
theorem pow10_cells : (globs.lookup 1) = some (Lib.pow10Tab.map fun z => Value.int .u64 z).toArray := by kernel_rfl
theorem fmt_call (n : Int) (h0 : -9223372036854775808 ≤ n) (h1 : n ≤ 9223372036854775807) :
    ACall Tryz.prog 25 [.c (.d (.int .i64 n)), .c (.d (.int .i64 10))] [] (fun o σ => o = .ret (.c (.d (.str (digs n)))) ∧ σ = []) where
  out := fun w C vs hI hv => by
    obtain ⟨u, v, rfl, g1, g2⟩ := two_vs' hv
    have e1 := int_of g1
    have e2 := int_of g2
    subst e1; subst e2
    have htab : Lib.TabIs Tryz.prog w "internal/strconv.uint64pow10" .u64 Lib.pow10Tab := by
      obtain ⟨_, t, fz, hg⟩ := hI.glb 1 _ (List.mem_singleton.2 rfl)
      unfold Lib.TabIs World.var?
      rw [pow10_name]
      simp only [Option.bind_some, hg]
      have := pow10_cells
      simpa [globs] using this
    have hcon := Any.strconv_FormatInt_10 lays173 n h0 h1 w htab
    change Calls Tryz.prog 25 _ _ _ at hcon
    refine hcon.mono fun e' w' ⟨h1, k, os, h2⟩ => ?_
    subst h1; subst h2
    obtain ⟨i1, i2⟩ := hI.grown (Lib.size_grow w k os) (fun b hb => Lib.heap_grow_old w k os b hb) rfl rfl rfl
    exact ⟨_, _, C, ⟨rfl, rfl⟩, i1, i2, _, rfl, .c _ _ (.d _ _ (.str _))⟩
theorem bExtra : Builder.Extra Tryz.prog lays156_ren where
  sizeBuilder := by kernel_rfl
  liesBuilder := by kernel_rfl
  t5 := Tryz.underlying5
  a5 := Tryz.isAgg5
  z5 := Tryz.sizeOf5
  v5 := Tryz.zeroValue5
  infoByte := by kernel_rfl
  cellsByte := by kernel_rfl
  sizeByte := by kernel_rfl
  neB5 := by decide
/-- The words, with a blank between. -/
def joinW (ws : List ByteArray) : List UInt8 := Lib.join (ws.map (·.data.toList)) [32]
set_option maxRecDepth 10000 in
theorem join_call (ws : List ByteArray) (hn : ws.length ≤ 140737488355328) (hl : (joinW ws).length ≤ 140737488355328) :
    ACall Tryz.prog 32 [.c (.d (.sl 0 1 (strs ws))), .c (.d (.str (bw [32])))] [] (fun o σ => o = .ret (.c (.d (.str (bw (joinW ws))))) ∧ σ = []) where
  out := fun w C vs hI hv => by
    obtain ⟨u, v, rfl, h1, h2⟩ := two_vs' hv
    have := str_of h2
    subst this
    have hx := repA_d (c_of h1)
    generalize hrows : strs ws = rows at hx
    cases hx with
    | sl0 A r sz c =>
      have : ws = [] := by cases ws with | nil => rfl | cons => simp [strs] at hrows
      subst this
      have hcon := Any.strings_Join_none lays156 bExtra A c (bw [32]) w
      change Calls Tryz.prog 32 _ _ _ at hcon
      refine hcon.mono fun e' w' ⟨h1, h2⟩ => ?_
      subst h1; subst h2
      exact ⟨_, _, C, ⟨rfl, rfl⟩, hI, .refl _ _ _, _, rfl, .c _ _ (.d _ _ (.str _))⟩
    | sl r sz g o n c rows cs e fz vs hr hh hn' hc hsz hcell hrep =>
      subst hrows
      rw [strs_len] at hn'
      subst hn'
      have hcells : ∀ (j : Nat) x, ws[j]? = some x → w.cell? ⟨g, o + j, none⟩ = some (.string x) := fun j x hj => by
        have hj' := (List.getElem?_eq_some_iff.1 hj).1
        have p1 := hcell j 0 hj' (by decide)
        have p2 := hrep j 0 [.str x] (.str x) (by simp [strs, hj]) rfl
        generalize vs j 0 = v at p1 p2
        cases p2
        simp only [World.cell?, hh]
        simpa using p1
      have hlt : g < w.heap.size := (Array.getElem?_eq_some_iff.1 hh).1
      have hcon := Any.strings_Join lays156 bExtra g o c ws (bw [32]) w hcells hlt hn hc hl
      change Calls Tryz.prog 32 _ _ _ at hcon
      refine hcon.mono fun e' w' ⟨h1, h2⟩ => ?_
      subst h1
      obtain ⟨b1, b2, b3, b4, b5⟩ := h2
      obtain ⟨i1, i2⟩ := hI.grown b4 b5 b1 b2 b3
      exact ⟨_, _, C, ⟨rfl, rfl⟩, i1, i2, _, rfl, .c _ _ (.d _ _ (.str _))⟩
end Go.Proofs.YtmaokphbfjpodaaGreatDoor.E

/- Walks: the writer, by kinds (printed by mk42.py). No conditions. -/
set_option linter.unusedVariables false
set_option linter.unusedSimpArgs false
namespace Go.Proofs.YtmaokphbfjpodaaGreatDoor.E
open Go

set_option maxRecDepth 10000 in
set_option maxHeartbeats 2000000 in
theorem wterm_0 (name arg : ByteArray) (num : Int) (tk : Int) (tks : List Ty) (uk : Int) (uks : List Ty) (label place : Int)  (ht : tmright (Tm.node 0 name arg num tk tks uk uks label place []) = true)  : WordsC 56 (Tm.node 0 name arg num tk tks uk uks label place []) := by
  intro ws hb
  have hW : tmW (Tm.node 0 name arg num tk tks uk uks label place []) = [name] := rfl
  rw [hW] at hb ⊢
  clear hW
  simp only [List.length_append, List.length_cons, List.length_nil] at hb
  skip
  unfold wObj
  refine ACall.body tab_ok (ρ := 0) (N := 165) Tryz.func56 rfl rfl rfl rfl rfl ?_
  repeat' first | ((refine And.intro (⟨by decide, by first | decide | (simp [Tm.rows]; done) | (simp [Tm.rows]; decide)⟩ : _ ∧ _) ?_; conv => whnf)) | ((intro row hrow; obtain rfl := Option.some.inj hrow; conv => whnf)) | refine AW.seq ?_ | refine AW.block ?_ | (refine (_root_.id : AW _ _ _ (.region 3 _ true) _ _ → _) ?_; refine AW.draw (id := 3) tab_ok mixed [0, 1, 2, 3, 4, 5, 6, 7, 8, 9] (by kernel_rfl) ?_; conv => whnf) | (refine (_root_.id : AW _ _ _ (.region 10 _ true) _ _ → _) ?_; refine AW.draw (id := 10) tab_ok mixed [0, 1, 2, 3, 4, 5, 6, 7, 8, 9, 10, 11] (by kernel_rfl) ?_; conv => whnf) | (refine (_root_.id : AW _ _ _ (.region 11 _ true) _ _ → _) ?_; refine AW.draw (id := 11) tab_ok mixed [0, 1, 2, 3, 4, 5, 6, 7, 8, 9, 10] (by kernel_rfl) ?_; conv => whnf) | ((first | refine AW.region tab_ok ?_ | refine AW.cond ?_ | refine AW.skip ?_ | refine AW.ret ?_ | refine AW.exit ?_); conv => whnf) | (refine (put_call _ [name] (by first | omega | (simp only [List.length_append, List.length_cons, List.length_nil]; omega))).mono ?_; rintro _ _ ⟨rfl, rfl⟩; conv => whnf) | ((first | refine And.intro (@rfl Val _) ?_ | refine And.intro (by decide) ?_ | refine cs (fun _ => ?_) (fun _ => ?_)) <;> conv => whnf)
  all_goals first | exact ⟨rfl, rfl⟩ | (refine ⟨rfl, ?_⟩; simp only [List.append_assoc]; rfl)
set_option maxRecDepth 10000 in
set_option maxHeartbeats 2000000 in
theorem wterm_2 (name arg : ByteArray) (num : Int) (tk : Int) (tks : List Ty) (uk : Int) (uks : List Ty) (label place : Int)  (ht : tmright (Tm.node 2 name arg num tk tks uk uks label place []) = true)  : WordsC 56 (Tm.node 2 name arg num tk tks uk uks label place []) := by
  intro ws hb
  have hW : tmW (Tm.node 2 name arg num tk tks uk uks label place []) = [bw [116, 114, 117, 101]] := rfl
  rw [hW] at hb ⊢
  clear hW
  simp only [List.length_append, List.length_cons, List.length_nil] at hb
  skip
  unfold wObj
  refine ACall.body tab_ok (ρ := 0) (N := 165) Tryz.func56 rfl rfl rfl rfl rfl ?_
  repeat' first | ((refine And.intro (⟨by decide, by first | decide | (simp [Tm.rows]; done) | (simp [Tm.rows]; decide)⟩ : _ ∧ _) ?_; conv => whnf)) | ((intro row hrow; obtain rfl := Option.some.inj hrow; conv => whnf)) | refine AW.seq ?_ | refine AW.block ?_ | (refine (_root_.id : AW _ _ _ (.region 3 _ true) _ _ → _) ?_; refine AW.draw (id := 3) tab_ok mixed [0, 1, 2, 3, 4, 5, 6, 7, 8, 9] (by kernel_rfl) ?_; conv => whnf) | (refine (_root_.id : AW _ _ _ (.region 10 _ true) _ _ → _) ?_; refine AW.draw (id := 10) tab_ok mixed [0, 1, 2, 3, 4, 5, 6, 7, 8, 9, 10, 11] (by kernel_rfl) ?_; conv => whnf) | (refine (_root_.id : AW _ _ _ (.region 11 _ true) _ _ → _) ?_; refine AW.draw (id := 11) tab_ok mixed [0, 1, 2, 3, 4, 5, 6, 7, 8, 9, 10] (by kernel_rfl) ?_; conv => whnf) | ((first | refine AW.region tab_ok ?_ | refine AW.cond ?_ | refine AW.skip ?_ | refine AW.ret ?_ | refine AW.exit ?_); conv => whnf) | (refine (put_call _ [bw [116, 114, 117, 101]] (by first | omega | (simp only [List.length_append, List.length_cons, List.length_nil]; omega))).mono ?_; rintro _ _ ⟨rfl, rfl⟩; conv => whnf) | ((first | refine And.intro (@rfl Val _) ?_ | refine And.intro (by decide) ?_ | refine cs (fun _ => ?_) (fun _ => ?_)) <;> conv => whnf)
  all_goals first | exact ⟨rfl, rfl⟩ | (refine ⟨rfl, ?_⟩; simp only [List.append_assoc]; rfl)
set_option maxRecDepth 10000 in
set_option maxHeartbeats 2000000 in
theorem wterm_3 (name arg : ByteArray) (num : Int) (tk : Int) (tks : List Ty) (uk : Int) (uks : List Ty) (label place : Int)  (ht : tmright (Tm.node 3 name arg num tk tks uk uks label place []) = true)  : WordsC 56 (Tm.node 3 name arg num tk tks uk uks label place []) := by
  intro ws hb
  have hW : tmW (Tm.node 3 name arg num tk tks uk uks label place []) = [bw [102, 97, 108, 115, 101]] := rfl
  rw [hW] at hb ⊢
  clear hW
  simp only [List.length_append, List.length_cons, List.length_nil] at hb
  skip
  unfold wObj
  refine ACall.body tab_ok (ρ := 0) (N := 165) Tryz.func56 rfl rfl rfl rfl rfl ?_
  repeat' first | ((refine And.intro (⟨by decide, by first | decide | (simp [Tm.rows]; done) | (simp [Tm.rows]; decide)⟩ : _ ∧ _) ?_; conv => whnf)) | ((intro row hrow; obtain rfl := Option.some.inj hrow; conv => whnf)) | refine AW.seq ?_ | refine AW.block ?_ | (refine (_root_.id : AW _ _ _ (.region 3 _ true) _ _ → _) ?_; refine AW.draw (id := 3) tab_ok mixed [0, 1, 2, 3, 4, 5, 6, 7, 8, 9] (by kernel_rfl) ?_; conv => whnf) | (refine (_root_.id : AW _ _ _ (.region 10 _ true) _ _ → _) ?_; refine AW.draw (id := 10) tab_ok mixed [0, 1, 2, 3, 4, 5, 6, 7, 8, 9, 10, 11] (by kernel_rfl) ?_; conv => whnf) | (refine (_root_.id : AW _ _ _ (.region 11 _ true) _ _ → _) ?_; refine AW.draw (id := 11) tab_ok mixed [0, 1, 2, 3, 4, 5, 6, 7, 8, 9, 10] (by kernel_rfl) ?_; conv => whnf) | ((first | refine AW.region tab_ok ?_ | refine AW.cond ?_ | refine AW.skip ?_ | refine AW.ret ?_ | refine AW.exit ?_); conv => whnf) | (refine (put_call _ [bw [102, 97, 108, 115, 101]] (by first | omega | (simp only [List.length_append, List.length_cons, List.length_nil]; omega))).mono ?_; rintro _ _ ⟨rfl, rfl⟩; conv => whnf) | ((first | refine And.intro (@rfl Val _) ?_ | refine And.intro (by decide) ?_ | refine cs (fun _ => ?_) (fun _ => ?_)) <;> conv => whnf)
  all_goals first | exact ⟨rfl, rfl⟩ | (refine ⟨rfl, ?_⟩; simp only [List.append_assoc]; rfl)
set_option maxRecDepth 10000 in
set_option maxHeartbeats 2000000 in
theorem wterm_6 (name arg : ByteArray) (num : Int) (tk : Int) (tks : List Ty) (uk : Int) (uks : List Ty) (label place : Int) (x y : Tm) (ht : tmright (Tm.node 6 name arg num tk tks uk uks label place [x, y]) = true) (cx : AtC x) (cy : AtC y) : WordsC 56 (Tm.node 6 name arg num tk tks uk uks label place [x, y]) := by
  intro ws hb
  have hW : tmW (Tm.node 6 name arg num tk tks uk uks label place [x, y]) = tmA 5 x ++ [bw [40]] ++ tmA (-1) y ++ [bw [41]] := rfl
  rw [hW] at hb ⊢
  clear hW
  simp only [List.length_append, List.length_cons, List.length_nil] at hb
  have dx := cx 5
  generalize tmA 5 x = sx at hb dx ⊢
  have dy := cy (-1)
  generalize tmA (-1) y = sy at hb dy ⊢
  simp only [AtC, wObj] at hb dx dy
  unfold wObj
  refine ACall.body tab_ok (ρ := 0) (N := 165) Tryz.func56 rfl rfl rfl rfl rfl ?_
  repeat' first | ((refine And.intro (⟨by decide, by first | decide | (simp [Tm.rows]; done) | (simp [Tm.rows]; decide)⟩ : _ ∧ _) ?_; conv => whnf)) | ((intro row hrow; obtain rfl := Option.some.inj hrow; conv => whnf)) | refine AW.seq ?_ | refine AW.block ?_ | (refine (_root_.id : AW _ _ _ (.region 3 _ true) _ _ → _) ?_; refine AW.draw (id := 3) tab_ok mixed [0, 1, 2, 3, 4, 5, 6, 7, 8, 9] (by kernel_rfl) ?_; conv => whnf) | (refine (_root_.id : AW _ _ _ (.region 10 _ true) _ _ → _) ?_; refine AW.draw (id := 10) tab_ok mixed [0, 1, 2, 3, 4, 5, 6, 7, 8, 9, 10, 11] (by kernel_rfl) ?_; conv => whnf) | (refine (_root_.id : AW _ _ _ (.region 11 _ true) _ _ → _) ?_; refine AW.draw (id := 11) tab_ok mixed [0, 1, 2, 3, 4, 5, 6, 7, 8, 9, 10] (by kernel_rfl) ?_; conv => whnf) | ((first | refine AW.region tab_ok ?_ | refine AW.cond ?_ | refine AW.skip ?_ | refine AW.ret ?_ | refine AW.exit ?_); conv => whnf) | ((first | refine (dx _ (by first | omega | (simp only [List.length_append, List.length_cons, List.length_nil]; omega))).mono ?_ | refine (dy _ (by first | omega | (simp only [List.length_append, List.length_cons, List.length_nil]; omega))).mono ?_ | refine (put_call _ [bw [40]] (by first | omega | (simp only [List.length_append, List.length_cons, List.length_nil]; omega))).mono ?_ | refine (put_call _ [bw [41]] (by first | omega | (simp only [List.length_append, List.length_cons, List.length_nil]; omega))).mono ?_); rintro _ _ ⟨rfl, rfl⟩; conv => whnf) | ((first | refine And.intro (@rfl Val _) ?_ | refine And.intro (by decide) ?_ | refine cs (fun _ => ?_) (fun _ => ?_)) <;> conv => whnf)
  all_goals first | exact ⟨rfl, rfl⟩ | (refine ⟨rfl, ?_⟩; simp only [List.append_assoc]; rfl)
set_option maxRecDepth 10000 in
set_option maxHeartbeats 2000000 in
theorem wterm_9 (name arg : ByteArray) (num : Int) (tk : Int) (tks : List Ty) (uk : Int) (uks : List Ty) (label place : Int) (x y : Tm) (ht : tmright (Tm.node 9 name arg num tk tks uk uks label place [x, y]) = true) (cx : AtC x) (cy : AtC y) : WordsC 56 (Tm.node 9 name arg num tk tks uk uks label place [x, y]) := by
  intro ws hb
  have hW : tmW (Tm.node 9 name arg num tk tks uk uks label place [x, y]) = [bw [91]] ++ tmA (-1) x ++ [bw [44]] ++ tmA (-1) y ++ [bw [93]] := rfl
  rw [hW] at hb ⊢
  clear hW
  simp only [List.length_append, List.length_cons, List.length_nil] at hb
  have dx := cx (-1)
  generalize tmA (-1) x = sx at hb dx ⊢
  have dy := cy (-1)
  generalize tmA (-1) y = sy at hb dy ⊢
  simp only [AtC, wObj] at hb dx dy
  unfold wObj
  refine ACall.body tab_ok (ρ := 0) (N := 165) Tryz.func56 rfl rfl rfl rfl rfl ?_
  repeat' first | ((refine And.intro (⟨by decide, by first | decide | (simp [Tm.rows]; done) | (simp [Tm.rows]; decide)⟩ : _ ∧ _) ?_; conv => whnf)) | ((intro row hrow; obtain rfl := Option.some.inj hrow; conv => whnf)) | refine AW.seq ?_ | refine AW.block ?_ | (refine (_root_.id : AW _ _ _ (.region 3 _ true) _ _ → _) ?_; refine AW.draw (id := 3) tab_ok mixed [0, 1, 2, 3, 4, 5, 6, 7, 8, 9] (by kernel_rfl) ?_; conv => whnf) | (refine (_root_.id : AW _ _ _ (.region 10 _ true) _ _ → _) ?_; refine AW.draw (id := 10) tab_ok mixed [0, 1, 2, 3, 4, 5, 6, 7, 8, 9, 10, 11] (by kernel_rfl) ?_; conv => whnf) | (refine (_root_.id : AW _ _ _ (.region 11 _ true) _ _ → _) ?_; refine AW.draw (id := 11) tab_ok mixed [0, 1, 2, 3, 4, 5, 6, 7, 8, 9, 10] (by kernel_rfl) ?_; conv => whnf) | ((first | refine AW.region tab_ok ?_ | refine AW.cond ?_ | refine AW.skip ?_ | refine AW.ret ?_ | refine AW.exit ?_); conv => whnf) | ((first | refine (dx _ (by first | omega | (simp only [List.length_append, List.length_cons, List.length_nil]; omega))).mono ?_ | refine (dy _ (by first | omega | (simp only [List.length_append, List.length_cons, List.length_nil]; omega))).mono ?_ | refine (put_call _ [bw [91]] (by first | omega | (simp only [List.length_append, List.length_cons, List.length_nil]; omega))).mono ?_ | refine (put_call _ [bw [44]] (by first | omega | (simp only [List.length_append, List.length_cons, List.length_nil]; omega))).mono ?_ | refine (put_call _ [bw [93]] (by first | omega | (simp only [List.length_append, List.length_cons, List.length_nil]; omega))).mono ?_); rintro _ _ ⟨rfl, rfl⟩; conv => whnf) | ((first | refine And.intro (@rfl Val _) ?_ | refine And.intro (by decide) ?_ | refine cs (fun _ => ?_) (fun _ => ?_)) <;> conv => whnf)
  all_goals first | exact ⟨rfl, rfl⟩ | (refine ⟨rfl, ?_⟩; simp only [List.append_assoc]; rfl)
end Go.Proofs.YtmaokphbfjpodaaGreatDoor.E
