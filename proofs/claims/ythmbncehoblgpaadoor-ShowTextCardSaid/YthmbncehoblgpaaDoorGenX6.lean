/- Texts, merged: St2, St3, St4, Lay173, Lay156, St6, St5A. No conditions. -/
import Derived.Test.YthmbncehoblgpaaDoorGenX5
import Derived.Test.YthmbncehoblgpaaDoorTab
import Derived.Shelf.Strconv.Itoa4
import Derived.KernelRfl
import Derived.Shelf.Strings.OnBuilder
import Derived.Lib.AppendIntMem
/- Walks: types.Text; the document's text of a type. No conditions. -/
set_option linter.unusedVariables false
set_option linter.unusedSimpArgs false
namespace Go.Proofs.YthmbncehoblgpaaDoor.E
open Go

theorem tsign_le (k : Int) : (tsign k).length ≤ 4 := (tsign_len k).2
theorem tbr_le (l k : Int) (s : List UInt8) : (tbr l k s).length ≤ s.length + 2 := by
  unfold tbr
  split <;> simp
mutual
theorem tyO_len : ∀ t : Ty, (tyO t).length + 2 ≤ 6 * nodes t
  | .node k ks => by
    have h := tyOL_len ks
    have hs := tsign_le k
    simp only [tyO, nodes]
    unfold tyJ
    split
    · rename_i p q e
      rw [e] at h
      simp only [List.map_cons, List.map_nil, List.sum_cons, List.sum_nil] at h
      have h1 := tbr_le (tleft k) p.1 p.2
      have h2 := tbr_le (tright2 k) q.1 q.2
      simp only [List.length_append]
      omega
    · omega
theorem tyOL_len : ∀ ks : List Ty, ((tyOL ks).map fun p => p.2.length + 2).sum ≤ 6 * nodesL ks
  | [] => Nat.le_refl _
  | t :: l => by
    have h1 := tyO_len t
    have h2 := tyOL_len l
    simp only [tyOL, nodesL, List.map_cons, List.sum_cons]
    omega
end
theorem tyW_len (l : Int) (t : Ty) : (tyW l t).length ≤ 6 * nodes t := by
  have h1 := tyO_len t
  have h2 := tbr_le l (tyK t) (tyO t)
  unfold tyW
  omega
theorem tcheck_nodes {t : Ty} (h : tcheck t = 0) : nodes t ≤ 8192 := by
  unfold tcheck at h
  split at h
  · cases h
  · omega
theorem ttight0 (k : Int) : ¬ ttight k < 0 := by
  unfold ttight
  repeat' split
  all_goals decide
theorem tyW0 (t : Ty) : tyW 0 t = tyO t := by
  unfold tyW tbr
  rw [if_neg (ttight0 _)]
set_option maxRecDepth 10000 in
theorem text_call (t : Ty) : ACall Tryd.prog 94 [t.val] [] (fun o σ => o = .ret (.tup [.c (.d (.str (if tcheck t = 0 then bw (tyO t) else bw []))), .c (.d (.int .i64 (tcheck t)))]) ∧ σ = []) := by
  have c1 := check_call t
  by_cases h : tcheck t = 0
  · rw [if_pos h]
    rw [h] at c1 ⊢
    have hn := tcheck_nodes h
    have hl := tyW_len 0 t
    have c2 := ACall.ghost (σ := []) (xs := [.c (.d .nils), t.val, .c (.d (.int .i64 0))]) (ys := [.c (.own 0 (0 : Nat)), t.val, .c (.d (.int .i64 0))]) 5 1 (by decide) ⟨.inr ⟨rfl, rfl⟩, .inl rfl, .inl rfl, trivial⟩ (write_call t (tcheck_right h) 0 [] 0 [] rfl rfl (by simp; omega))
    rw [tyW0, List.nil_append] at c2
    obtain ⟨k, ks⟩ := t
    refine ACall.body tab_ok (ρ := 0) (N := 13) Tryd.func94 rfl rfl rfl rfl rfl ?_
    repeat' first | ((refine ⟨rfl, _, rfl, ?_⟩; conv => whnf)) | refine AW.seq ?_ | refine AW.block ?_ | ((first | refine AW.region tab_ok ?_ | refine AW.cond ?_ | refine AW.skip ?_ | refine AW.ret ?_ | refine AW.exit ?_); conv => whnf) | ((first | refine (c1).mono ?_ | refine (c2).mono ?_); rintro _ _ ⟨rfl, rfl⟩; conv => whnf) | ((first | refine And.intro (@rfl Val _) ?_ | refine And.intro (by decide) ?_ | refine cs (fun _ => ?_) (fun _ => ?_)) <;> conv => whnf)
    exact ⟨rfl, rfl⟩
  · rw [if_neg h]
    have hd : decide (tcheck t = 0) = false := by simp [h]
    generalize tcheck t = e at *
    obtain ⟨k, ks⟩ := t
    refine ACall.body tab_ok (ρ := 0) (N := 13) Tryd.func94 rfl rfl rfl rfl rfl ?_
    repeat' first | refine AW.seq ?_ | refine AW.block ?_ | ((first | refine AW.region tab_ok ?_ | refine AW.cond ?_ | refine AW.skip ?_ | refine AW.ret ?_ | refine AW.exit ?_); conv => whnf) | (refine (c1).mono ?_; rintro _ _ ⟨rfl, rfl⟩; conv => whnf) | ((first | refine And.intro (@rfl Val _) ?_ | refine And.intro (by decide) ?_ | refine cs (fun _ => ?_) (fun _ => ?_)) <;> conv => whnf)
    all_goals first | exact ⟨rfl, rfl⟩ | (rename_i h3; exact absurd (by simpa using h3) h)

/-! ### The document's -/
theorem bw_app (a b : List UInt8) : bw a ++ bw b = bw (a ++ b) := by
  apply ByteArray.ext
  simp [bw]
theorem bwl (l : List UInt8) : (⟨l.toArray⟩ : ByteArray).size = l.length := rfl
set_option maxRecDepth 10000 in
theorem rstrength_call (k : Int) (hk : k = 0 ∨ k = 1 ∨ k = 2 ∨ k = 3 ∨ k = 4 ∨ k = 5) : ACall Tryd.prog 136 [.c (.d (.int .i8 k))] [] (fun o σ => o = .ret (.c (.d (.int .i64 (ttight k)))) ∧ σ = []) := by
  rcases hk with rfl | rfl | rfl | rfl | rfl | rfl
  all_goals
    refine ACall.body tab_ok (ρ := 0) (N := 10) Tryd.func136 rfl rfl rfl rfl rfl ?_
    repeat' first | ((refine ⟨by decide, ?_⟩; conv => whnf)) | refine AW.seq ?_ | refine AW.block ?_ | ((first | refine AW.region tab_ok ?_ | refine AW.cond ?_ | refine AW.skip ?_ | refine AW.ret ?_ | refine AW.exit ?_); conv => whnf) | ((first | refine And.intro (@rfl Val _) ?_ | refine And.intro (by decide) ?_ | refine cs (fun _ => ?_) (fun _ => ?_)) <;> conv => whnf)
    exact ⟨rfl, rfl⟩
def rsign (k : Int) : List UInt8 := if k = 3 then [45, 62] else if k = 5 then [43] else [42]
set_option maxRecDepth 10000 in
theorem rsign_call (k : Int) (hk : k = 0 ∨ k = 1 ∨ k = 2 ∨ k = 3 ∨ k = 4 ∨ k = 5) : ACall Tryd.prog 137 [.c (.d (.int .i8 k))] [] (fun o σ => o = .ret (.c (.d (.str (bw (rsign k))))) ∧ σ = []) := by
  rcases hk with rfl | rfl | rfl | rfl | rfl | rfl
  all_goals
    refine ACall.body tab_ok (ρ := 0) (N := 8) Tryd.func137 rfl rfl rfl rfl rfl ?_
    repeat' first | ((refine ⟨by decide, ?_⟩; conv => whnf)) | refine AW.seq ?_ | refine AW.block ?_ | ((first | refine AW.region tab_ok ?_ | refine AW.cond ?_ | refine AW.skip ?_ | refine AW.ret ?_ | refine AW.exit ?_); conv => whnf) | ((first | refine And.intro (@rfl Val _) ?_ | refine And.intro (by decide) ?_ | refine cs (fun _ => ?_) (fun _ => ?_)) <;> conv => whnf)
    exact ⟨rfl, rfl⟩
theorem retS {a b : ByteArray} (h : a = b) : Out.ret (.c (.d (.str a))) = Out.ret (.c (.d (.str b))) := by rw [h]
set_option maxRecDepth 10000 in
set_option maxHeartbeats 2000000 in
theorem rtext_call (a : Ty) : tright a = true → ∀ least, (tyW least a).length ≤ 1000000000 → ACall Tryd.prog 123 [a.val, .c (.d (.int .i64 least))] [] (fun o σ => o = .ret (.c (.d (.str (bw (tyW least a))))) ∧ σ = []) := by
  induction a using Ty.ind with
  | _ k ks ih =>
  intro hr least hb
  have hpl := tright_len hr
  have hk := tkinds hpl
  have c1 := rstrength_call k hk
  have c2 := rsign_call k hk
  have hle := tbr_le least k (tyO (.node k ks))
  obtain ⟨bl, hbl⟩ : ∃ bl, decide (ttight k < least) = bl := ⟨_, rfl⟩
  have hW : bw (tyW least (.node k ks)) = if bl = true then (⟨#[40]⟩ : ByteArray) ++ bw (tyO (.node k ks)) ++ ⟨#[41]⟩ else bw (tyO (.node k ks)) := by
    subst hbl
    unfold tyW tbr
    by_cases h : ttight k < least
    · rw [if_pos (show ttight (tyK (.node k ks)) < least from h), if_pos (by simp [h])]
      rw [show (⟨#[40]⟩ : ByteArray) = bw [40] from rfl, show (⟨#[41]⟩ : ByteArray) = bw [41] from rfl, bw_app, bw_app]
      rfl
    · rw [if_neg (show ¬ ttight (tyK (.node k ks)) < least from h), if_neg (by simp [h])]
  have hO : (tyO (.node k ks)).length ≤ 1000000000 := by
    refine Nat.le_trans ?_ hb
    unfold tyW tbr
    split <;> simp <;> omega
  rw [hW]
  clear hW hle hb
  by_cases h3 : k < 3
  · have hks : ks = [] := List.eq_nil_of_length_eq_zero (by rcases hk with rfl | rfl | rfl | rfl | rfl | rfl <;> simp [parts] at hpl h3 <;> omega)
    subst hks
    rcases hk with rfl | rfl | rfl | rfl | rfl | rfl
    all_goals first
      | exact absurd h3 (by decide)
      | skip
        refine ACall.body tab_ok (ρ := 0) (N := 62) Tryd.func123 rfl rfl rfl rfl rfl ?_
        repeat' first | ((rw [hbl]; cases bl <;> conv => whnf)) | ((refine And.intro (by simp only [ByteArray.size_append, bw_size, bwl, List.length_cons, List.length_nil]; omega : (_ : Nat) ≤ 9223372036854775807) ?_; conv => whnf)) | refine AW.seq ?_ | refine AW.block ?_ | (refine (_root_.id : AW _ _ _ (.region 12 _ true) _ _ → _) ?_; refine AW.draw (id := 12) tab_ok mixed [0, 1, 2, 3, 4, 5, 8, 9, 10, 11, 12, 6, 7, 13, 14, 15] (by kernel_rfl) ?_; conv => whnf) | (refine (_root_.id : AW _ _ _ (.region 4 _ true) _ _ → _) ?_; refine AW.draw (id := 4) tab_ok mixed [0, 1, 2, 3, 4, 7, 8, 12, 13, 14, 15, 16, 17, 5, 6, 9, 10, 11, 18, 19, 20] (by kernel_rfl) ?_; conv => whnf) | ((first | refine AW.region tab_ok ?_ | refine AW.cond ?_ | refine AW.skip ?_ | refine AW.ret ?_ | refine AW.exit ?_); conv => whnf) | ((first | refine (c1).mono ?_ | refine (c2).mono ?_); rintro _ _ ⟨rfl, rfl⟩; conv => whnf) | ((first | refine And.intro (@rfl Val _) ?_ | refine And.intro (by decide) ?_ | refine cs (fun _ => ?_) (fun _ => ?_)) <;> conv => whnf)
        all_goals exact ⟨rfl, rfl⟩
  · obtain ⟨x, y, rfl⟩ : ∃ x y, ks = [x, y] := len2 (by rcases hk with rfl | rfl | rfl | rfl | rfl | rfl <;> simp [parts] at hpl h3 <;> omega)
    have hT : bw (tyO (.node k [x, y])) = if k = 3 then bw (tyW (tleft k) x) ++ ⟨#[32, 45, 62, 32]⟩ ++ bw (tyW (tright2 k) y) else bw (tyW (tleft k) x) ++ ⟨#[32]⟩ ++ bw (rsign k) ++ ⟨#[32]⟩ ++ bw (tyW (tright2 k) y) := by
      rw [show tyO (.node k [x, y]) = tyW (tleft k) x ++ tsign k ++ tyW (tright2 k) y from rfl]
      rcases hk with rfl | rfl | rfl | rfl | rfl | rfl
      all_goals first
        | exact absurd (by decide) h3
        | (rw [show (⟨#[32, 45, 62, 32]⟩ : ByteArray) = bw [32, 45, 62, 32] from rfl, show (⟨#[32]⟩ : ByteArray) = bw [32] from rfl]; simp only [bw_app, if_true]; exact congrArg bw (by simp [tsign, rsign]))
    have hO' : (tyW (tleft k) x).length + (tsign k).length + (tyW (tright2 k) y).length ≤ 1000000000 := by
      rw [show tyO (.node k [x, y]) = tyW (tleft k) x ++ tsign k ++ tyW (tright2 k) y from rfl] at hO
      simpa [Nat.add_assoc] using hO
    rw [hT]
    have cx := ih x (by simp) (tright_kid hr (by simp)) (tleft k) (by omega)
    have cy := ih y (by simp) (tright_kid hr (by simp)) (tright2 k) (by omega)
    clear hT hO
    have hs : (rsign k).length ≤ 4 := by
      unfold rsign
      repeat' split
      all_goals decide
    generalize tyW (tleft k) x = sx at hO' cx ⊢
    generalize tyW (tright2 k) y = sy at hO' cy ⊢
    obtain ⟨kx, lx⟩ := x
    obtain ⟨ky, ly⟩ := y
    rcases hk with rfl | rfl | rfl | rfl | rfl | rfl
    all_goals first
      | exact absurd (by decide) h3
      | skip
        refine ACall.body tab_ok (ρ := 0) (N := 62) Tryd.func123 rfl rfl rfl rfl rfl ?_
        repeat' first | ((rw [hbl]; cases bl <;> conv => whnf)) | ((refine And.intro (by simp only [ByteArray.size_append, bw_size, bwl, List.length_cons, List.length_nil]; omega : (_ : Nat) ≤ 9223372036854775807) ?_; conv => whnf)) | ((refine And.intro (by simp only [ByteArray.size_append, bw_size, bwl, List.length_cons, List.length_nil]; omega : (_ : Nat) ≤ 9223372036854775807) ?_; conv => whnf)) | ((refine And.intro (⟨by decide, by first | decide | (simp [Ty.rows]; done) | (simp [Ty.rows]; decide)⟩ : _ ∧ _) ?_; conv => whnf)) | ((intro row hrow; obtain rfl := Option.some.inj hrow; conv => whnf)) | refine AW.seq ?_ | refine AW.block ?_ | (refine (_root_.id : AW _ _ _ (.region 12 _ true) _ _ → _) ?_; refine AW.draw (id := 12) tab_ok mixed [0, 1, 2, 3, 4, 5, 8, 9, 10, 11, 12, 6, 7, 13, 14, 15] (by kernel_rfl) ?_; conv => whnf) | (refine (_root_.id : AW _ _ _ (.region 4 _ true) _ _ → _) ?_; refine AW.draw (id := 4) tab_ok mixed [0, 1, 2, 3, 4, 7, 8, 12, 13, 14, 15, 16, 17, 5, 6, 9, 10, 11, 18, 19, 20] (by kernel_rfl) ?_; conv => whnf) | ((first | refine AW.region tab_ok ?_ | refine AW.cond ?_ | refine AW.skip ?_ | refine AW.ret ?_ | refine AW.exit ?_); conv => whnf) | ((first | refine (c1).mono ?_ | refine (c2).mono ?_ | refine (cx).mono ?_ | refine (cy).mono ?_); rintro _ _ ⟨rfl, rfl⟩; conv => whnf) | ((first | refine And.intro (@rfl Val _) ?_ | refine And.intro (by decide) ?_ | refine cs (fun _ => ?_) (fun _ => ?_)) <;> conv => whnf)
        all_goals exact ⟨rfl, rfl⟩
end Go.Proofs.YthmbncehoblgpaaDoor.E

/- Walks: the writer's words: put, kind, strength. No conditions. -/
set_option linter.unusedVariables false
set_option linter.unusedSimpArgs false
namespace Go.Proofs.YthmbncehoblgpaaDoor.E
open Go

theorem strs_app (l m : List ByteArray) : strs (l ++ m) = strs l ++ strs m := by simp [strs]
def wObj (ws : List ByteArray) : List AObj := [.var [.fn 18 [] [.ptr 1 0]], .var [.own 2 (strs ws).length], .row 9 1 (strs ws)]
theorem put_call (ws vs : List ByteArray) (h : ws.length + vs.length ≤ 1000000000) : ACall Tryd.prog 18 [.c (.d (.sl 0 1 (strs vs))), .c (.ptr 0 0)] [.var [.own 1 (strs ws).length], .row 9 1 (strs ws)]
    (fun o σ => o = .ret (.tup []) ∧ σ = [.var [.own 1 (strs (ws ++ vs)).length], .row 9 1 (strs (ws ++ vs))]) := by
  rw [strs_app, List.length_append]
  refine ACall.body tab_ok (ρ := 0) (N := 6) Tryd.func18 rfl rfl rfl rfl rfl ?_
  repeat' first | ((refine ⟨⟨rfl, by simp only [bnd, strs_len]; omega⟩, ?_⟩; conv => whnf)) | refine AW.seq ?_ | refine AW.block ?_ | ((first | refine AW.region tab_ok ?_ | refine AW.cond ?_ | refine AW.skip ?_ | refine AW.ret ?_ | refine AW.exit ?_); conv => whnf) | ((first | refine And.intro (@rfl Val _) ?_ | refine And.intro (by decide) ?_ | refine cs (fun _ => ?_) (fun _ => ?_)) <;> conv => whnf)
  exact ⟨rfl, rfl⟩
set_option maxRecDepth 10000 in
theorem wkind_call (t : Ty) (ht : tcheck t = 0) (ws : List ByteArray) (h : ws.length < 1000000000) : ACall Tryd.prog 68 [.c (.ptr 0 0), t.val] (wObj ws) (fun o σ => o = .ret (.tup []) ∧ σ = wObj (ws ++ [bw (tyO t)])) := by
  have c1 := text_call t
  rw [if_pos ht, ht] at c1
  have c2 := put_call ws [bw (tyO t)] (by simp; omega)
  generalize bw (tyO t) = s at *
  obtain ⟨k, ks⟩ := t
  unfold wObj
  refine ACall.body tab_ok (ρ := 0) (N := 18) Tryd.func68 rfl rfl rfl rfl rfl ?_
  repeat' first | refine AW.seq ?_ | refine AW.block ?_ | ((first | refine AW.region tab_ok ?_ | refine AW.cond ?_ | refine AW.skip ?_ | refine AW.ret ?_ | refine AW.exit ?_); conv => whnf) | ((first | refine (c1).mono ?_ | refine (c2).mono ?_); rintro _ _ ⟨rfl, rfl⟩; conv => whnf) | ((first | refine And.intro (@rfl Val _) ?_ | refine And.intro (by decide) ?_ | refine cs (fun _ => ?_) (fun _ => ?_)) <;> conv => whnf)
  exact ⟨rfl, rfl⟩

theorem tmS15 {name arg num tk tks uk uks label place ks} : tmS (.node 15 name arg num tk tks uk uks label place ks) = if (decide (name = ⟨#[60]⟩) || decide (name = ⟨#[61]⟩)) = true then 1 else if (decide (name = ⟨#[43]⟩) || decide (name = ⟨#[45]⟩)) = true then 2 else 3 := by
  show (if name = bw [60] ∨ name = bw [61] then (1 : Int) else if name = bw [43] ∨ name = bw [45] then 2 else 3) = _
  simp only [Bool.or_eq_true, decide_eq_true_eq]
  rfl
set_option maxRecDepth 10000 in
theorem strength_call (t : Tm) (ht : tmright t = true) : ACall Tryd.prog 40 [.c (.d (.rp 0 t.cells))] [] (fun o σ => o = .ret (.c (.d (.int .i64 (tmS t)))) ∧ σ = []) := by
  obtain ⟨k, name, arg, num, tk, tks, uk, uks, label, place, ks⟩ := t
  have hv := tmright_valid ht
  rcases kinds k hv with rfl | rfl | rfl | rfl | rfl | rfl | rfl | rfl | rfl | rfl | rfl | rfl | rfl | rfl | rfl | rfl | rfl | rfl
  all_goals
    refine ACall.body tab_ok (ρ := 0) (N := 39) Tryd.func40 rfl rfl rfl rfl rfl ?_
    repeat' first | refine AW.seq ?_ | refine AW.block ?_ | ((first | refine AW.region tab_ok ?_ | refine AW.cond ?_ | refine AW.skip ?_ | refine AW.ret ?_ | refine AW.exit ?_); conv => whnf) | ((first | refine And.intro (@rfl Val _) ?_ | refine And.intro (by decide) ?_ | refine cs (fun _ => ?_) (fun _ => ?_)) <;> conv => whnf)
    all_goals first
      | exact ⟨rfl, rfl⟩
      | (refine ⟨?_, rfl⟩; simp_all [oneOf, tmS]; done)
      | (refine ⟨?_, rfl⟩; rename_i h1; rw [tmS15]; simp only [*, Bool.or_true, Bool.true_or, Bool.or_false, Bool.false_eq_true, if_false, if_true, oneOf]; done)
     
end Go.Proofs.YthmbncehoblgpaaDoor.E

/- What the writer's walks say. No conditions. -/
set_option linter.unusedVariables false
set_option linter.unusedSimpArgs false
namespace Go.Proofs.YthmbncehoblgpaaDoor.E
open Go

def AtC (t : Tm) : Prop := ∀ (least : Int) (ws : List ByteArray), ws.length + (tmA least t).length ≤ 1000000000 →
  ACall Tryd.prog 19 [.c (.ptr 0 0), .c (.d (.rp 0 t.cells)), .c (.d (.int .i64 least))] (wObj ws) (fun o σ => o = .ret (.tup []) ∧ σ = wObj (ws ++ tmA least t))
def WordsC (f : Nat) (t : Tm) : Prop := ∀ ws : List ByteArray, ws.length + (tmW t).length ≤ 1000000000 →
  ACall Tryd.prog f [.c (.ptr 0 0), .c (.d (.rp 0 t.cells))] (wObj ws) (fun o σ => o = .ret (.tup []) ∧ σ = wObj (ws ++ tmW t))
end Go.Proofs.YthmbncehoblgpaaDoor.E

/- A function of Go's library laid at this translation: its code is the one that the library's contract speaks of. No conditions. -/
namespace Go.Proofs.YthmbncehoblgpaaDoor.E
open Go.Shelf
def lays173_ren : Go.Shelf.Ren := ⟨fun | 173 => 65 | 246 => 93 | 283 => 115 | 284 => 116 | 285 => 117 | 286 => 118 | 129 => 114 | 317 => 130 | 318 => 131 | 319 => 132 | 320 => 133 | 337 => 139 | 338 => 140 | n => n, fun | 2 => 2 | 3 => 3 | 9 => 9 | 4 => 4 | 171 => 165 | 0 => 0 | 53 => 163 | 37 => 97 | 5 => 5 | 173 => 167 | 212 => 179 | 51 => 161 | 20 => 20 | 213 => 180 | 46 => 147 | 232 => 188 | 233 => 189 | n => n, fun | 17 => 2 | 18 => 3 | 19 => 4 | n => n⟩
set_option maxRecDepth 100000 in
theorem lays173 : Go.Proofs.LaysM.n173 Tryd.prog lays173_ren where
  mixed := by kernel_rfl
  f129 := Tryd.func114.trans (congrArg some (by kernel_rfl))
  f173 := Tryd.func65.trans (congrArg some (by kernel_rfl))
  f246 := Tryd.func93.trans (congrArg some (by kernel_rfl))
  f283 := Tryd.func115.trans (congrArg some (by kernel_rfl))
  f284 := Tryd.func116.trans (congrArg some (by kernel_rfl))
  f285 := Tryd.func117.trans (congrArg some (by kernel_rfl))
  f286 := Tryd.func118.trans (congrArg some (by kernel_rfl))
  f317 := Tryd.func130.trans (congrArg some (by kernel_rfl))
  f318 := Tryd.func131.trans (congrArg some (by kernel_rfl))
  f319 := Tryd.func132.trans (congrArg some (by kernel_rfl))
  f320 := Tryd.func133.trans (congrArg some (by kernel_rfl))
  f337 := Tryd.func139.trans (congrArg some (by kernel_rfl))
  f338 := Tryd.func140.trans (congrArg some (by kernel_rfl))
  t0 := Tryd.underlying0
  a0 := Tryd.isAgg0
  z0 := Tryd.sizeOf0
  v0 := Tryd.zeroValue0
  t2 := Tryd.underlying2
  a2 := Tryd.isAgg2
  z2 := Tryd.sizeOf2
  v2 := Tryd.zeroValue2
  t3 := Tryd.underlying3
  a3 := Tryd.isAgg3
  z3 := Tryd.sizeOf3
  v3 := Tryd.zeroValue3
  t4 := Tryd.underlying4
  a4 := Tryd.isAgg4
  z4 := Tryd.sizeOf4
  v4 := Tryd.zeroValue4
  t5 := Tryd.underlying5
  a5 := Tryd.isAgg5
  z5 := Tryd.sizeOf5
  v5 := Tryd.zeroValue5
  t9 := Tryd.underlying9
  a9 := Tryd.isAgg9
  z9 := Tryd.sizeOf9
  v9 := Tryd.zeroValue9
  t20 := Tryd.underlying20
  a20 := Tryd.isAgg20
  z20 := Tryd.sizeOf20
  v20 := Tryd.zeroValue20
  t37 := Tryd.underlying97
  a37 := Tryd.isAgg97
  z37 := Tryd.sizeOf97
  v37 := Tryd.zeroValue97
  t46 := Tryd.underlying147
  a46 := Tryd.isAgg147
  z46 := Tryd.sizeOf147
  v46 := Tryd.zeroValue147
  t51 := Tryd.underlying161
  a51 := Tryd.isAgg161
  z51 := Tryd.sizeOf161
  v51 := Tryd.zeroValue161
  t53 := Tryd.underlying163
  a53 := Tryd.isAgg163
  z53 := Tryd.sizeOf163
  v53 := Tryd.zeroValue163
  t171 := Tryd.underlying165
  a171 := Tryd.isAgg165
  z171 := Tryd.sizeOf165
  v171 := Tryd.zeroValue165
  t173 := Tryd.underlying167
  a173 := Tryd.isAgg167
  z173 := Tryd.sizeOf167
  v173 := Tryd.zeroValue167
  t212 := Tryd.underlying179
  a212 := Tryd.isAgg179
  z212 := Tryd.sizeOf179
  v212 := Tryd.zeroValue179
  t213 := Tryd.underlying180
  a213 := Tryd.isAgg180
  z213 := Tryd.sizeOf180
  t232 := Tryd.underlying188
  a232 := Tryd.isAgg188
  z232 := Tryd.sizeOf188
  v232 := Tryd.zeroValue188
  t233 := Tryd.underlying189
  a233 := Tryd.isAgg189
  z233 := Tryd.sizeOf189
  v233 := Tryd.zeroValue189
  g17 := by kernel_rfl
  g18 := by kernel_rfl
  g19 := by kernel_rfl
  i0 := by kernel_rfl
  i2 := by kernel_rfl
  i3 := by kernel_rfl
  i4 := by kernel_rfl
  i5 := by kernel_rfl
  i9 := by kernel_rfl
  i20 := by kernel_rfl
  i37 := by kernel_rfl
  i46 := by kernel_rfl
  i51 := by kernel_rfl
  i53 := by kernel_rfl
  i171 := by kernel_rfl
  i173 := by kernel_rfl
  i212 := by kernel_rfl
  i232 := by kernel_rfl
  i233 := by kernel_rfl
  m17 := by kernel_rfl
  m18 := by kernel_rfl
  m19 := by kernel_rfl
end Go.Proofs.YthmbncehoblgpaaDoor.E

/- A function of Go's library laid at this translation: its code is the one that the library's contract speaks of. No conditions. -/
namespace Go.Proofs.YthmbncehoblgpaaDoor.E
open Go.Shelf
def lays156_ren : Go.Shelf.Ren := ⟨fun | 156 => 20 | 165 => 42 | 166 => 43 | 169 => 44 | 240 => 70 | 241 => 71 | 276 => 95 | 277 => 96 | n => n, fun | 31 => 34 | 9 => 9 | 3 => 3 | 4 => 4 | 0 => 0 | 20 => 20 | 72 => 99 | 76 => 46 | 70 => 96 | 37 => 97 | 75 => 31 | 127 => 133 | 164 => 76 | 5 => 5 | 80 => 101 | n => n, fun n => n⟩
set_option maxRecDepth 100000 in
theorem lays156 : Go.Proofs.Lays.n156 Tryd.prog lays156_ren where
  mixed := by kernel_rfl
  f156 := Tryd.func20.trans (congrArg some (by kernel_rfl))
  f165 := Tryd.func42.trans (congrArg some (by kernel_rfl))
  f166 := Tryd.func43.trans (congrArg some (by kernel_rfl))
  f169 := Tryd.func44.trans (congrArg some (by kernel_rfl))
  f240 := Tryd.func70.trans (congrArg some (by kernel_rfl))
  f241 := Tryd.func71.trans (congrArg some (by kernel_rfl))
  f276 := Tryd.func95.trans (congrArg some (by kernel_rfl))
  f277 := Tryd.func96.trans (congrArg some (by kernel_rfl))
  t0 := Tryd.underlying0
  a0 := Tryd.isAgg0
  z0 := Tryd.sizeOf0
  v0 := Tryd.zeroValue0
  t3 := Tryd.underlying3
  a3 := Tryd.isAgg3
  z3 := Tryd.sizeOf3
  v3 := Tryd.zeroValue3
  t4 := Tryd.underlying4
  a4 := Tryd.isAgg4
  z4 := Tryd.sizeOf4
  v4 := Tryd.zeroValue4
  t9 := Tryd.underlying9
  a9 := Tryd.isAgg9
  z9 := Tryd.sizeOf9
  v9 := Tryd.zeroValue9
  t20 := Tryd.underlying20
  a20 := Tryd.isAgg20
  z20 := Tryd.sizeOf20
  v20 := Tryd.zeroValue20
  t31 := Tryd.underlying34
  a31 := Tryd.isAgg34
  z31 := Tryd.sizeOf34
  v31 := Tryd.zeroValue34
  t37 := Tryd.underlying97
  a37 := Tryd.isAgg97
  z37 := Tryd.sizeOf97
  v37 := Tryd.zeroValue97
  t70 := Tryd.underlying96
  a70 := Tryd.isAgg96
  z70 := Tryd.sizeOf96
  v70 := Tryd.zeroValue96
  t72 := Tryd.underlying99
  a72 := Tryd.isAgg99
  z72 := Tryd.sizeOf99
  v72 := Tryd.zeroValue99
  t75 := Tryd.underlying31
  a75 := Tryd.isAgg31
  z75 := Tryd.sizeOf31
  v75 := Tryd.zeroValue31
  t76 := Tryd.underlying46
  a76 := Tryd.isAgg46
  z76 := Tryd.sizeOf46
  v76 := Tryd.zeroValue46
  t127 := Tryd.underlying133
  a127 := Tryd.isAgg133
  z127 := Tryd.sizeOf133
  v127 := Tryd.zeroValue133
  t164 := Tryd.underlying76
  a164 := Tryd.isAgg76
  z164 := Tryd.sizeOf76
  v164 := Tryd.zeroValue76
end Go.Proofs.YthmbncehoblgpaaDoor.E

/- strconv.FormatInt and strings.Join: the library's contracts in the engine's words. No conditions. -/
set_option linter.unusedVariables false
set_option linter.unusedSimpArgs false
namespace Go.Proofs.YthmbncehoblgpaaDoor.E
open Go Go.Sort Go.Shelf Go.RowKit

theorem Inv.grown {w w' : World} {C : Cz} {σ : List AObj} (h : Inv w C σ) (hsz : w.heap.size ≤ w'.heap.size) (hold : ∀ b, b < w.heap.size → w'.heap[b]? = w.heap[b]?) (hos : w'.os = w.os) (ht : w'.tape = w.tape) (hu : w'.output = w.output) :
    Inv w' C σ ∧ Ext w C σ w' C σ := by
  have hle : CzLe w C w' C := ⟨fun b r hb => ⟨hb, .inl (hold b (h.rgs b r hb))⟩, fun i e he => ⟨e, he, .refl e⟩⟩
  refine ⟨⟨h.len, fun i o e h1 h2 => (h.ok i o e h1 h2).keep hle (fun hl b hb => hold b (h.unrg i o e b h1 hl h2 hb).2), fun i o e b h1 h2 h3 h4 => ?_, h.apart, fun b r hb => Nat.lt_of_lt_of_le (h.rgs b r hb) hsz, h.glb.le hle⟩,
    ⟨hos, ht, hu, hsz, hle, fun b hb _ _ => hold b hb, fun _ h => .inl h, fun _ _ h => .inl h⟩⟩
  obtain ⟨g1, g2⟩ := h.unrg i o e b h1 h2 h3 h4
  exact ⟨g1, Nat.lt_of_lt_of_le g2 hsz⟩
theorem two_vs' {w : World} {C : Cz} {vs : Array Value} {x y : Val} (h : RepVs w C vs.toList [x, y]) : ∃ u v, vs = #[u, v] ∧ RepV w C u x ∧ RepV w C v y := by
  have hl : vs.size = 2 := by have := h.1; simpa using this
  obtain ⟨u, v, rfl⟩ : ∃ u v, vs = #[u, v] := by
    match vs, hl with
    | ⟨[u, v]⟩, _ => exact ⟨u, v, rfl⟩
  exact ⟨u, v, rfl, h.2 0 u x rfl rfl, h.2 1 v y rfl rfl⟩
theorem pow10_name : Tryd.prog.globalNamed "internal/strconv.uint64pow10" = some 2 := by kernel_rfl
theorem pow10_cells : (globs.lookup 2) = some (Lib.pow10Tab.map fun z => Value.int .u64 z).toArray := by kernel_rfl
theorem fmt_call (n : Int) (h0 : -9223372036854775808 ≤ n) (h1 : n ≤ 9223372036854775807) :
    ACall Tryd.prog 65 [.c (.d (.int .i64 n)), .c (.d (.int .i64 10))] [] (fun o σ => o = .ret (.c (.d (.str (digs n)))) ∧ σ = []) where
  out := fun w C vs hI hv => by
    obtain ⟨u, v, rfl, g1, g2⟩ := two_vs' hv
    have e1 := int_of g1
    have e2 := int_of g2
    subst e1; subst e2
    have htab : Lib.TabIs Tryd.prog w "internal/strconv.uint64pow10" .u64 Lib.pow10Tab := by
      obtain ⟨_, t, fz, hg⟩ := hI.glb 2 _ (List.mem_singleton.2 rfl)
      unfold Lib.TabIs World.var?
      rw [pow10_name]
      simp only [Option.bind_some, hg]
      have := pow10_cells
      simpa [globs] using this
    have hcon := Any.strconv_FormatInt_10 lays173 n h0 h1 w htab
    change Calls Tryd.prog 65 _ _ _ at hcon
    refine hcon.mono fun e' w' ⟨h1, k, os, h2⟩ => ?_
    subst h1; subst h2
    obtain ⟨i1, i2⟩ := hI.grown (Lib.size_grow w k os) (fun b hb => Lib.heap_grow_old w k os b hb) rfl rfl rfl
    exact ⟨_, _, C, ⟨rfl, rfl⟩, i1, i2, _, rfl, .c _ _ (.d _ _ (.str _))⟩
theorem bExtra : Builder.Extra Tryd.prog lays156_ren where
  sizeBuilder := by kernel_rfl
  liesBuilder := by kernel_rfl
  t5 := Tryd.underlying5
  a5 := Tryd.isAgg5
  z5 := Tryd.sizeOf5
  v5 := Tryd.zeroValue5
  infoByte := by kernel_rfl
  cellsByte := by kernel_rfl
  sizeByte := by kernel_rfl
  neB5 := by decide
/-- The words, with a blank between. -/
def joinW (ws : List ByteArray) : List UInt8 := Lib.join (ws.map (·.data.toList)) [32]
set_option maxRecDepth 10000 in
theorem join_call (ws : List ByteArray) (hn : ws.length ≤ 140737488355328) (hl : (joinW ws).length ≤ 140737488355328) :
    ACall Tryd.prog 20 [.c (.d (.sl 0 1 (strs ws))), .c (.d (.str (bw [32])))] [] (fun o σ => o = .ret (.c (.d (.str (bw (joinW ws))))) ∧ σ = []) where
  out := fun w C vs hI hv => by
    obtain ⟨u, v, rfl, h1, h2⟩ := two_vs' hv
    have := str_of h2
    subst this
    have hx := repA_d (c_of h1)
    generalize hrows : strs ws = rows at hx
    cases hx with
    | sl0 A r sz c =>
      have : ws = [] := by cases ws with | nil => rfl | cons => simp [strs] at hrows
      subst this
      have hcon := Any.strings_Join_none lays156 bExtra A c (bw [32]) w
      change Calls Tryd.prog 20 _ _ _ at hcon
      refine hcon.mono fun e' w' ⟨h1, h2⟩ => ?_
      subst h1; subst h2
      exact ⟨_, _, C, ⟨rfl, rfl⟩, hI, .refl _ _ _, _, rfl, .c _ _ (.d _ _ (.str _))⟩
    | sl r sz g o n c rows cs e fz vs hr hh hn' hc hsz hcell hrep =>
      subst hrows
      rw [strs_len] at hn'
      subst hn'
      have hcells : ∀ (j : Nat) x, ws[j]? = some x → w.cell? ⟨g, o + j, none⟩ = some (.string x) := fun j x hj => by
        have hj' := (List.getElem?_eq_some_iff.1 hj).1
        have p1 := hcell j 0 hj' (by decide)
        have p2 := hrep j 0 [.str x] (.str x) (by simp [strs, hj]) rfl
        generalize vs j 0 = v at p1 p2
        cases p2
        simp only [World.cell?, hh]
        simpa using p1
      have hlt : g < w.heap.size := (Array.getElem?_eq_some_iff.1 hh).1
      have hcon := Any.strings_Join lays156 bExtra g o c ws (bw [32]) w hcells hlt hn hc hl
      change Calls Tryd.prog 20 _ _ _ at hcon
      refine hcon.mono fun e' w' ⟨h1, h2⟩ => ?_
      subst h1
      obtain ⟨b1, b2, b3, b4, b5⟩ := h2
      obtain ⟨i1, i2⟩ := hI.grown b4 b5 b1 b2 b3
      exact ⟨_, _, C, ⟨rfl, rfl⟩, i1, i2, _, rfl, .c _ _ (.d _ _ (.str _))⟩
end Go.Proofs.YthmbncehoblgpaaDoor.E

/- Walks: the writer, by kinds (printed by mk42.py). No conditions. -/
set_option linter.unusedVariables false
set_option linter.unusedSimpArgs false
namespace Go.Proofs.YthmbncehoblgpaaDoor.E
open Go

set_option maxRecDepth 10000 in
set_option maxHeartbeats 2000000 in
theorem wterm_0 (name arg : ByteArray) (num : Int) (tk : Int) (tks : List Ty) (uk : Int) (uks : List Ty) (label place : Int)  (ht : tmright (Tm.node 0 name arg num tk tks uk uks label place []) = true)  : WordsC 41 (Tm.node 0 name arg num tk tks uk uks label place []) := by
  intro ws hb
  have hW : tmW (Tm.node 0 name arg num tk tks uk uks label place []) = [name] := rfl
  rw [hW] at hb ⊢
  clear hW
  simp only [List.length_append, List.length_cons, List.length_nil] at hb
  skip
  unfold wObj
  refine ACall.body tab_ok (ρ := 0) (N := 165) Tryd.func41 rfl rfl rfl rfl rfl ?_
  repeat' first | ((refine And.intro (⟨by decide, by first | decide | (simp [Tm.rows]; done) | (simp [Tm.rows]; decide)⟩ : _ ∧ _) ?_; conv => whnf)) | ((intro row hrow; obtain rfl := Option.some.inj hrow; conv => whnf)) | refine AW.seq ?_ | refine AW.block ?_ | (refine (_root_.id : AW _ _ _ (.region 3 _ true) _ _ → _) ?_; refine AW.draw (id := 3) tab_ok mixed [0, 1, 2, 3, 4, 5, 6, 7, 8, 9] (by kernel_rfl) ?_; conv => whnf) | (refine (_root_.id : AW _ _ _ (.region 10 _ true) _ _ → _) ?_; refine AW.draw (id := 10) tab_ok mixed [0, 1, 2, 3, 4, 5, 6, 7, 8, 9, 10, 11] (by kernel_rfl) ?_; conv => whnf) | (refine (_root_.id : AW _ _ _ (.region 11 _ true) _ _ → _) ?_; refine AW.draw (id := 11) tab_ok mixed [0, 1, 2, 3, 4, 5, 6, 7, 8, 9, 10] (by kernel_rfl) ?_; conv => whnf) | ((first | refine AW.region tab_ok ?_ | refine AW.cond ?_ | refine AW.skip ?_ | refine AW.ret ?_ | refine AW.exit ?_); conv => whnf) | (refine (put_call _ [name] (by first | omega | (simp only [List.length_append, List.length_cons, List.length_nil]; omega))).mono ?_; rintro _ _ ⟨rfl, rfl⟩; conv => whnf) | ((first | refine And.intro (@rfl Val _) ?_ | refine And.intro (by decide) ?_ | refine cs (fun _ => ?_) (fun _ => ?_)) <;> conv => whnf)
  all_goals first | exact ⟨rfl, rfl⟩ | (refine ⟨rfl, ?_⟩; simp only [List.append_assoc]; rfl)
set_option maxRecDepth 10000 in
set_option maxHeartbeats 2000000 in
theorem wterm_2 (name arg : ByteArray) (num : Int) (tk : Int) (tks : List Ty) (uk : Int) (uks : List Ty) (label place : Int)  (ht : tmright (Tm.node 2 name arg num tk tks uk uks label place []) = true)  : WordsC 41 (Tm.node 2 name arg num tk tks uk uks label place []) := by
  intro ws hb
  have hW : tmW (Tm.node 2 name arg num tk tks uk uks label place []) = [bw [116, 114, 117, 101]] := rfl
  rw [hW] at hb ⊢
  clear hW
  simp only [List.length_append, List.length_cons, List.length_nil] at hb
  skip
  unfold wObj
  refine ACall.body tab_ok (ρ := 0) (N := 165) Tryd.func41 rfl rfl rfl rfl rfl ?_
  repeat' first | ((refine And.intro (⟨by decide, by first | decide | (simp [Tm.rows]; done) | (simp [Tm.rows]; decide)⟩ : _ ∧ _) ?_; conv => whnf)) | ((intro row hrow; obtain rfl := Option.some.inj hrow; conv => whnf)) | refine AW.seq ?_ | refine AW.block ?_ | (refine (_root_.id : AW _ _ _ (.region 3 _ true) _ _ → _) ?_; refine AW.draw (id := 3) tab_ok mixed [0, 1, 2, 3, 4, 5, 6, 7, 8, 9] (by kernel_rfl) ?_; conv => whnf) | (refine (_root_.id : AW _ _ _ (.region 10 _ true) _ _ → _) ?_; refine AW.draw (id := 10) tab_ok mixed [0, 1, 2, 3, 4, 5, 6, 7, 8, 9, 10, 11] (by kernel_rfl) ?_; conv => whnf) | (refine (_root_.id : AW _ _ _ (.region 11 _ true) _ _ → _) ?_; refine AW.draw (id := 11) tab_ok mixed [0, 1, 2, 3, 4, 5, 6, 7, 8, 9, 10] (by kernel_rfl) ?_; conv => whnf) | ((first | refine AW.region tab_ok ?_ | refine AW.cond ?_ | refine AW.skip ?_ | refine AW.ret ?_ | refine AW.exit ?_); conv => whnf) | (refine (put_call _ [bw [116, 114, 117, 101]] (by first | omega | (simp only [List.length_append, List.length_cons, List.length_nil]; omega))).mono ?_; rintro _ _ ⟨rfl, rfl⟩; conv => whnf) | ((first | refine And.intro (@rfl Val _) ?_ | refine And.intro (by decide) ?_ | refine cs (fun _ => ?_) (fun _ => ?_)) <;> conv => whnf)
  all_goals first | exact ⟨rfl, rfl⟩ | (refine ⟨rfl, ?_⟩; simp only [List.append_assoc]; rfl)
set_option maxRecDepth 10000 in
set_option maxHeartbeats 2000000 in
theorem wterm_3 (name arg : ByteArray) (num : Int) (tk : Int) (tks : List Ty) (uk : Int) (uks : List Ty) (label place : Int)  (ht : tmright (Tm.node 3 name arg num tk tks uk uks label place []) = true)  : WordsC 41 (Tm.node 3 name arg num tk tks uk uks label place []) := by
  intro ws hb
  have hW : tmW (Tm.node 3 name arg num tk tks uk uks label place []) = [bw [102, 97, 108, 115, 101]] := rfl
  rw [hW] at hb ⊢
  clear hW
  simp only [List.length_append, List.length_cons, List.length_nil] at hb
  skip
  unfold wObj
  refine ACall.body tab_ok (ρ := 0) (N := 165) Tryd.func41 rfl rfl rfl rfl rfl ?_
  repeat' first | ((refine And.intro (⟨by decide, by first | decide | (simp [Tm.rows]; done) | (simp [Tm.rows]; decide)⟩ : _ ∧ _) ?_; conv => whnf)) | ((intro row hrow; obtain rfl := Option.some.inj hrow; conv => whnf)) | refine AW.seq ?_ | refine AW.block ?_ | (refine (_root_.id : AW _ _ _ (.region 3 _ true) _ _ → _) ?_; refine AW.draw (id := 3) tab_ok mixed [0, 1, 2, 3, 4, 5, 6, 7, 8, 9] (by kernel_rfl) ?_; conv => whnf) | (refine (_root_.id : AW _ _ _ (.region 10 _ true) _ _ → _) ?_; refine AW.draw (id := 10) tab_ok mixed [0, 1, 2, 3, 4, 5, 6, 7, 8, 9, 10, 11] (by kernel_rfl) ?_; conv => whnf) | (refine (_root_.id : AW _ _ _ (.region 11 _ true) _ _ → _) ?_; refine AW.draw (id := 11) tab_ok mixed [0, 1, 2, 3, 4, 5, 6, 7, 8, 9, 10] (by kernel_rfl) ?_; conv => whnf) | ((first | refine AW.region tab_ok ?_ | refine AW.cond ?_ | refine AW.skip ?_ | refine AW.ret ?_ | refine AW.exit ?_); conv => whnf) | (refine (put_call _ [bw [102, 97, 108, 115, 101]] (by first | omega | (simp only [List.length_append, List.length_cons, List.length_nil]; omega))).mono ?_; rintro _ _ ⟨rfl, rfl⟩; conv => whnf) | ((first | refine And.intro (@rfl Val _) ?_ | refine And.intro (by decide) ?_ | refine cs (fun _ => ?_) (fun _ => ?_)) <;> conv => whnf)
  all_goals first | exact ⟨rfl, rfl⟩ | (refine ⟨rfl, ?_⟩; simp only [List.append_assoc]; rfl)
set_option maxRecDepth 10000 in
set_option maxHeartbeats 2000000 in
theorem wterm_6 (name arg : ByteArray) (num : Int) (tk : Int) (tks : List Ty) (uk : Int) (uks : List Ty) (label place : Int) (x y : Tm) (ht : tmright (Tm.node 6 name arg num tk tks uk uks label place [x, y]) = true) (cx : AtC x) (cy : AtC y) : WordsC 41 (Tm.node 6 name arg num tk tks uk uks label place [x, y]) := by
  intro ws hb
  have hW : tmW (Tm.node 6 name arg num tk tks uk uks label place [x, y]) = tmA 5 x ++ [bw [40]] ++ tmA (-1) y ++ [bw [41]] := rfl
  rw [hW] at hb ⊢
  clear hW
  simp only [List.length_append, List.length_cons, List.length_nil] at hb
  have dx := cx 5
  generalize tmA 5 x = sx at hb dx ⊢
  have dy := cy (-1)
  generalize tmA (-1) y = sy at hb dy ⊢
  simp only [AtC, wObj] at hb dx dy
  unfold wObj
  refine ACall.body tab_ok (ρ := 0) (N := 165) Tryd.func41 rfl rfl rfl rfl rfl ?_
  repeat' first | ((refine And.intro (⟨by decide, by first | decide | (simp [Tm.rows]; done) | (simp [Tm.rows]; decide)⟩ : _ ∧ _) ?_; conv => whnf)) | ((intro row hrow; obtain rfl := Option.some.inj hrow; conv => whnf)) | refine AW.seq ?_ | refine AW.block ?_ | (refine (_root_.id : AW _ _ _ (.region 3 _ true) _ _ → _) ?_; refine AW.draw (id := 3) tab_ok mixed [0, 1, 2, 3, 4, 5, 6, 7, 8, 9] (by kernel_rfl) ?_; conv => whnf) | (refine (_root_.id : AW _ _ _ (.region 10 _ true) _ _ → _) ?_; refine AW.draw (id := 10) tab_ok mixed [0, 1, 2, 3, 4, 5, 6, 7, 8, 9, 10, 11] (by kernel_rfl) ?_; conv => whnf) | (refine (_root_.id : AW _ _ _ (.region 11 _ true) _ _ → _) ?_; refine AW.draw (id := 11) tab_ok mixed [0, 1, 2, 3, 4, 5, 6, 7, 8, 9, 10] (by kernel_rfl) ?_; conv => whnf) | ((first | refine AW.region tab_ok ?_ | refine AW.cond ?_ | refine AW.skip ?_ | refine AW.ret ?_ | refine AW.exit ?_); conv => whnf) | ((first | refine (dx _ (by first | omega | (simp only [List.length_append, List.length_cons, List.length_nil]; omega))).mono ?_ | refine (dy _ (by first | omega | (simp only [List.length_append, List.length_cons, List.length_nil]; omega))).mono ?_ | refine (put_call _ [bw [40]] (by first | omega | (simp only [List.length_append, List.length_cons, List.length_nil]; omega))).mono ?_ | refine (put_call _ [bw [41]] (by first | omega | (simp only [List.length_append, List.length_cons, List.length_nil]; omega))).mono ?_); rintro _ _ ⟨rfl, rfl⟩; conv => whnf) | ((first | refine And.intro (@rfl Val _) ?_ | refine And.intro (by decide) ?_ | refine cs (fun _ => ?_) (fun _ => ?_)) <;> conv => whnf)
  all_goals first | exact ⟨rfl, rfl⟩ | (refine ⟨rfl, ?_⟩; simp only [List.append_assoc]; rfl)
set_option maxRecDepth 10000 in
set_option maxHeartbeats 2000000 in
theorem wterm_9 (name arg : ByteArray) (num : Int) (tk : Int) (tks : List Ty) (uk : Int) (uks : List Ty) (label place : Int) (x y : Tm) (ht : tmright (Tm.node 9 name arg num tk tks uk uks label place [x, y]) = true) (cx : AtC x) (cy : AtC y) : WordsC 41 (Tm.node 9 name arg num tk tks uk uks label place [x, y]) := by
  intro ws hb
  have hW : tmW (Tm.node 9 name arg num tk tks uk uks label place [x, y]) = [bw [91]] ++ tmA (-1) x ++ [bw [44]] ++ tmA (-1) y ++ [bw [93]] := rfl
  rw [hW] at hb ⊢
  clear hW
  simp only [List.length_append, List.length_cons, List.length_nil] at hb
  have dx := cx (-1)
  generalize tmA (-1) x = sx at hb dx ⊢
  have dy := cy (-1)
  generalize tmA (-1) y = sy at hb dy ⊢
  simp only [AtC, wObj] at hb dx dy
  unfold wObj
  refine ACall.body tab_ok (ρ := 0) (N := 165) Tryd.func41 rfl rfl rfl rfl rfl ?_
  repeat' first | ((refine And.intro (⟨by decide, by first | decide | (simp [Tm.rows]; done) | (simp [Tm.rows]; decide)⟩ : _ ∧ _) ?_; conv => whnf)) | ((intro row hrow; obtain rfl := Option.some.inj hrow; conv => whnf)) | refine AW.seq ?_ | refine AW.block ?_ | (refine (_root_.id : AW _ _ _ (.region 3 _ true) _ _ → _) ?_; refine AW.draw (id := 3) tab_ok mixed [0, 1, 2, 3, 4, 5, 6, 7, 8, 9] (by kernel_rfl) ?_; conv => whnf) | (refine (_root_.id : AW _ _ _ (.region 10 _ true) _ _ → _) ?_; refine AW.draw (id := 10) tab_ok mixed [0, 1, 2, 3, 4, 5, 6, 7, 8, 9, 10, 11] (by kernel_rfl) ?_; conv => whnf) | (refine (_root_.id : AW _ _ _ (.region 11 _ true) _ _ → _) ?_; refine AW.draw (id := 11) tab_ok mixed [0, 1, 2, 3, 4, 5, 6, 7, 8, 9, 10] (by kernel_rfl) ?_; conv => whnf) | ((first | refine AW.region tab_ok ?_ | refine AW.cond ?_ | refine AW.skip ?_ | refine AW.ret ?_ | refine AW.exit ?_); conv => whnf) | ((first | refine (dx _ (by first | omega | (simp only [List.length_append, List.length_cons, List.length_nil]; omega))).mono ?_ | refine (dy _ (by first | omega | (simp only [List.length_append, List.length_cons, List.length_nil]; omega))).mono ?_ | refine (put_call _ [bw [91]] (by first | omega | (simp only [List.length_append, List.length_cons, List.length_nil]; omega))).mono ?_ | refine (put_call _ [bw [44]] (by first | omega | (simp only [List.length_append, List.length_cons, List.length_nil]; omega))).mono ?_ | refine (put_call _ [bw [93]] (by first | omega | (simp only [List.length_append, List.length_cons, List.length_nil]; omega))).mono ?_); rintro _ _ ⟨rfl, rfl⟩; conv => whnf) | ((first | refine And.intro (@rfl Val _) ?_ | refine And.intro (by decide) ?_ | refine cs (fun _ => ?_) (fun _ => ?_)) <;> conv => whnf)
  all_goals first | exact ⟨rfl, rfl⟩ | (refine ⟨rfl, ?_⟩; simp only [List.append_assoc]; rfl)
end Go.Proofs.YthmbncehoblgpaaDoor.E
