/- Plain laws of casts. No conditions. -/
import Derived.Test.YtoglfnjankinnaaCs6
set_option linter.unusedVariables false
set_option linter.unusedSimpArgs false
namespace Go.Proofs.Ytoglfnjankinnaa.E
open Go

def ctN : Ct → Nat
  | .mk tk tks uk uks _ => 1 + min (nodes (.node tk tks)) 8193 + min (nodes (.node uk uks)) 8193
def castN : List Ct → Nat
  | [] => 0
  | c :: l => ctN c + castN l
theorem castN_append : ∀ (l m : List Ct), castN (l ++ m) = castN l + castN m
  | [], m => by simp [castN]
  | c :: l, m => by simp only [List.cons_append, castN, castN_append l m]; omega
theorem castN_take : ∀ (l : List Ct) (i : Nat) c, l[i]? = some c → castN (l.take (i + 1)) = castN (l.take i) + ctN c
  | x :: l, 0, c, h => by simp at h; subst h; simp [castN]
  | x :: l, i + 1, c, h => by
    simp only [List.getElem?_cons_succ] at h
    have := castN_take l i c h
    simp only [List.take_succ_cons, castN, this]
    omega
theorem castN_le : ∀ (l : List Ct) (i : Nat), castN (l.take i) ≤ castN l
  | [], i => by simp [castN]
  | x :: l, 0 => by simp [castN]
  | x :: l, i + 1 => by
    have := castN_le l i
    simp only [List.take_succ_cons, castN]
    omega
theorem one_kid {k name arg num tk tks uk uks label place ks} (h : tmright (.node k name arg num tk tks uk uks label place ks) = true) (hk : k = 17) : ∃ x, ks = [x] := by
  subst hk
  have hl := tmright_len h
  have h1 : kidsK 17 = 1 := rfl
  match ks, hl with
  | [], h => simp [h1] at h
  | [x], _ => exact ⟨x, rfl⟩
  | x :: y :: l, h => simp [h1] at h; omega
theorem erase_N (t : Tm) : tmright t = true → tmN t = tmN (tmerase t) + castN (tcasts t) := by
  induction t using Tm.ind with
  | _ k name arg num tk tks uk uks label place ks ih =>
  intro ha
  by_cases hk : k = 17
  · obtain ⟨x, rfl⟩ := one_kid ha hk
    subst hk
    have := ih x (by simp) (tmright_kid ha (by simp))
    have e1 : tmerase (.node 17 name arg num tk tks uk uks label place [x]) = tmerase x := by simp [tmerase, tmerases]
    have e2 : tcasts (.node 17 name arg num tk tks uk uks label place [x]) = .mk tk tks uk uks label :: tcasts x := by simp [tcasts, tcastss]
    rw [e1, e2]
    simp only [tmN, tmNL, castN, ctN]
    rw [if_pos (show typeK 17 = true from rfl), if_pos (show toK 17 = true from rfl)]
    omega
  · have e1 : tmerase (.node k name arg num tk tks uk uks label place ks) = .node k (if nameK k || decide (k = 15) then name else ⟨#[]⟩) (if argK k then arg else ⟨#[]⟩) (if decide (k = 1) then num else 0) (if typeK k then tk else 0) (if typeK k then tks else []) (if toK k then uk else 0) (if toK k then uks else []) 0 place (tmerases ks) := by simp only [tmerase]; rw [if_neg hk]
    have e2 : tcasts (.node k name arg num tk tks uk uks label place ks) = tcastss ks := by simp [tcasts, hk]
    have hs : ∀ l : List Tm, (∀ t ∈ l, tmN t = tmN (tmerase t) + castN (tcasts t)) → tmNL l = tmNL (tmerases l) + castN (tcastss l) := fun l => by
      induction l with
      | nil => intro _; simp [tmNL, tmerases, tcastss, castN]
      | cons x l ihl =>
        intro h
        have h1 := h x (by simp)
        have h2 := ihl fun t ht => h t (by simp [ht])
        simp only [tmNL, tmerases, tcastss, castN_append]
        omega
    have := hs ks fun t ht => ih t ht (tmright_kid ha ht)
    rw [e1, e2]
    simp only [tmN]
    cases typeK k <;> cases toK k <;> simp only [if_true, if_false, Bool.false_eq_true] <;> omega
theorem erase_casts (t : Tm) : tmright t = true → tcasts (tmerase t) = [] := by
  induction t using Tm.ind with
  | _ k name arg num tk tks uk uks label place ks ih =>
  intro ha
  by_cases hk : k = 17
  · obtain ⟨x, rfl⟩ := one_kid ha hk
    subst hk
    have e1 : tmerase (.node 17 name arg num tk tks uk uks label place [x]) = tmerase x := by simp [tmerase, tmerases]
    rw [e1]
    exact ih x (by simp) (tmright_kid ha (by simp))
  · have hs : ∀ l : List Tm, (∀ t ∈ l, tcasts (tmerase t) = []) → tcastss (tmerases l) = [] := fun l => by
      induction l with
      | nil => intro _; simp [tmerases, tcastss]
      | cons x l ihl =>
        intro h
        have h1 := h x (by simp)
        have h2 := ihl fun t ht => h t (by simp [ht])
        simp only [tmerases, tcastss, h1, h2, List.nil_append]
    simp only [tmerase]
    rw [if_neg hk]
    simp only [tcasts, if_neg hk, List.nil_append]
    exact hs ks fun t ht => ih t ht (tmright_kid ha ht)
theorem erase_erase (t : Tm) : tmright t = true → tmerase (tmerase t) = tmerase t := by
  induction t using Tm.ind with
  | _ k name arg num tk tks uk uks label place ks ih =>
  intro ha
  by_cases hk : k = 17
  · obtain ⟨x, rfl⟩ := one_kid ha hk
    subst hk
    have e1 : tmerase (.node 17 name arg num tk tks uk uks label place [x]) = tmerase x := by simp [tmerase, tmerases]
    rw [e1]
    exact ih x (by simp) (tmright_kid ha (by simp))
  · have hs : ∀ l : List Tm, (∀ t ∈ l, tmerase (tmerase t) = tmerase t) → tmerases (tmerases l) = tmerases l := fun l => by
      induction l with
      | nil => intro _; simp [tmerases]
      | cons x l ihl =>
        intro h
        have h1 := h x (by simp)
        have h2 := ihl fun t ht => h t (by simp [ht])
        simp only [tmerases, h1, h2]
    have h2 := hs ks fun t ht => ih t ht (tmright_kid ha ht)
    simp only [tmerase, if_neg hk, h2]
    congr 1 <;> (split <;> rfl)
theorem tmD_step (t : Tm) : ∀ m, tmD t (m + 1) ≤ tmD t m + 1 := by
  induction t using Tm.ind with
  | _ k name arg num tk tks uk uks label place ks ih =>
  intro m
  have hs : ∀ (l : List Tm) (m : Nat), (∀ t ∈ l, ∀ m, tmD t (m + 1) ≤ tmD t m + 1) → tmDL l (m + 1) ≤ tmDL l m + 1 := fun l m => by
    induction l with
    | nil => intro _; simp [tmDL]
    | cons x l ihl =>
      intro h
      have h1 := h x (by simp) m
      have h2 := ihl fun t ht => h t (by simp [ht])
      simp only [tmDL]
      omega
  simp only [tmD]
  generalize max (if typeK k = true then tdepth (.node tk tks) else 0) (if toK k = true then tdepth (.node uk uks) else 0) = d
  by_cases h1 : m ≤ 1
  · rw [if_pos h1]
    by_cases h0 : m = 0
    · subst h0; simp
    · obtain rfl : m = 1 := by omega
      rw [if_neg (by omega)]
      omega
  · rw [if_neg h1, if_neg (by omega)]
    have := hs ks (m - 1) ih
    rw [show m - 1 + 1 = m + 1 - 1 by omega] at this
    omega
theorem erase_D (t : Tm) : tmright t = true → ∀ m, tmD (tmerase t) m ≤ tmD t m := by
  induction t using Tm.ind with
  | _ k name arg num tk tks uk uks label place ks ih =>
  intro ha m
  by_cases hk : k = 17
  · obtain ⟨x, rfl⟩ := one_kid ha hk
    subst hk
    have e1 : tmerase (.node 17 name arg num tk tks uk uks label place [x]) = tmerase x := by simp [tmerase, tmerases]
    rw [e1]
    have h1 := ih x (by simp) (tmright_kid ha (by simp)) m
    have h2 := tmD_le x m
    simp only [tmD, tmDL]
    generalize max (if typeK 17 = true then tdepth (.node tk tks) else 0) (if toK 17 = true then tdepth (.node uk uks) else 0) = d
    by_cases hm : m ≤ 1
    · rw [if_pos hm]; omega
    · rw [if_neg hm]
      have h3 := tmD_step x (m - 1)
      rw [show m - 1 + 1 = m by omega] at h3
      omega
  · have hs : ∀ (l : List Tm) (m : Nat), (∀ t ∈ l, ∀ m, tmD (tmerase t) m ≤ tmD t m) → tmDL (tmerases l) m ≤ tmDL l m := fun l m => by
      induction l with
      | nil => intro _; simp [tmerases, tmDL]
      | cons x l ihl =>
        intro h
        have h1 := h x (by simp) m
        have h2 := ihl fun t ht => h t (by simp [ht])
        simp only [tmerases, tmDL]
        omega
    have h2 := hs ks (m - 1) fun t ht => ih t ht (tmright_kid ha ht)
    simp only [tmerase, if_neg hk, tmD]
    by_cases hm : m ≤ 1
    · rw [if_pos hm, if_pos hm]; exact Nat.le_refl _
    · rw [if_neg hm, if_neg hm]
      cases typeK k <;> cases toK k <;> simp only [if_true, if_false, Bool.false_eq_true] <;> omega
theorem erase_right (t : Tm) : tmright t = true → tmright (tmerase t) = true := by
  induction t using Tm.ind with
  | _ k name arg num tk tks uk uks label place ks ih =>
  intro ha
  by_cases hk : k = 17
  · obtain ⟨x, rfl⟩ := one_kid ha hk
    subst hk
    have e1 : tmerase (.node 17 name arg num tk tks uk uks label place [x]) = tmerase x := by simp [tmerase, tmerases]
    rw [e1]
    exact ih x (by simp) (tmright_kid ha (by simp))
  · have hks : tmrights (tmerases ks) = true := (tmrights_all _).2 fun x hx => by
      rw [tmerases_map] at hx
      obtain ⟨y, hy, rfl⟩ := List.mem_map.1 hx
      exact ih y hy (tmright_kid ha hy)
    simp only [tmright, ownRight, Bool.and_eq_true] at ha
    obtain ⟨⟨⟨⟨⟨⟨⟨h1, h2⟩, h3⟩, h4⟩, h5⟩, h6⟩, h7⟩, h8⟩ := ha
    simp only [tmerase, if_neg hk, tmright, ownRight, Bool.and_eq_true, tmerases_len]
    refine ⟨⟨⟨⟨⟨⟨⟨h1, ?_⟩, ?_⟩, ?_⟩, ?_⟩, ?_⟩, ?_⟩, hks⟩
    · simp [hk]
    · cases hn : nameK k <;> simp_all
    · cases hn : argK k <;> simp_all
    · cases hn : typeK k <;> simp_all
    · cases hn : toK k <;> simp_all
    · by_cases hn : k = 15 <;> simp_all
theorem erase_check {t : Tm} (h : tmcheck t = 0) : tmcheck (tmerase t) = 0 := by
  have hr := tmcheck_right h
  have n := erase_N t hr
  have d := erase_D t hr 201
  unfold tmcheck at h ⊢
  split at h
  · omega
  · split at h
    · omega
    · rw [if_neg (by omega), if_neg (by omega), if_pos (erase_right t hr)]
theorem erase_H (t : Tm) : tmright t = true → tmH (tmerase t) ≤ tmH t := by
  induction t using Tm.ind with
  | _ k name arg num tk tks uk uks label place ks ih =>
  intro ha
  by_cases hk : k = 17
  · obtain ⟨x, rfl⟩ := one_kid ha hk
    subst hk
    have e1 : tmerase (.node 17 name arg num tk tks uk uks label place [x]) = tmerase x := by simp [tmerase, tmerases]
    rw [e1]
    have h1 := ih x (by simp) (tmright_kid ha (by simp))
    simp only [tmH, tmHL]
    omega
  · have hs : ∀ (l : List Tm), (∀ t ∈ l, tmH (tmerase t) ≤ tmH t) → tmHL (tmerases l) ≤ tmHL l := fun l => by
      induction l with
      | nil => intro _; simp [tmerases, tmHL]
      | cons x l ihl =>
        intro h
        have h1 := h x (by simp)
        have h2 := ihl fun t ht => h t (by simp [ht])
        simp only [tmerases, tmHL]
        omega
    have h2 := hs ks fun t ht => ih t ht (tmright_kid ha ht)
    simp only [tmerase, if_neg hk, tmH]
    cases typeK k <;> cases toK k <;> simp only [if_true, if_false, Bool.false_eq_true] <;> omega
theorem erase_fine (t : Tm) : tmN t ≤ 8192 → tmright t = true → Fine (tmerase t) := by
  induction t using Tm.ind with
  | _ k name arg num tk tks uk uks label place ks ih =>
  intro hN ha
  have hlen := tmNL_len ks
  by_cases hk : k = 17
  · obtain ⟨x, rfl⟩ := one_kid ha hk
    subst hk
    have e1 : tmerase (.node 17 name arg num tk tks uk uks label place [x]) = tmerase x := by simp [tmerase, tmerases]
    rw [e1]
    have := tmN_mem [x] x (by simp)
    simp only [tmN] at hN
    exact ih x (by simp) (by omega) (tmright_kid ha (by simp))
  · simp only [tmN] at hN
    simp only [tmerase, if_neg hk]
    refine .node ?_ ?_ ?_ ?_
    · cases h : typeK k
      · simp [nodes, nodesL]
      · rw [if_pos h] at hN; simp only [if_true]; omega
    · cases h : toK k
      · simp [nodes, nodesL]
      · rw [if_pos h] at hN; simp only [if_true]; omega
    · rw [tmerases_len]; omega
    · intro x hx
      rw [tmerases_map] at hx
      obtain ⟨y, hy, rfl⟩ := List.mem_map.1 hx
      have := tmN_mem ks y hy
      exact ih y hy (by omega) (tmright_kid ha hy)
/-! ### Sides -/
def ctLab : Ct → Int
  | .mk _ _ _ _ label => label
def isLab (lab : Int) (c : Ct) : Bool := ctLab c == lab || ctLab c == -lab
theorem sfold_none (lab : Int) (s : Bool × Bool) : ∀ l : List Ct, l.any (isLab lab) = false → sfold lab s l = s
  | [], _ => rfl
  | c :: l, h => by
    simp only [List.any_cons, Bool.or_eq_false_iff] at h
    obtain ⟨h1, h2⟩ := h
    have ih := sfold_none lab s l h2
    obtain ⟨tk, tks, uk, uks, label⟩ := c
    simp only [isLab, ctLab, Bool.or_eq_false_iff] at h1
    have : sstep lab s (.mk tk tks uk uks label) = s := by
      simp only [sstep, h1.1, h1.2]
      simp
    simp only [sfold, List.foldl_cons, this] at ih ⊢
    exact ih
theorem sstep_swap (lab : Int) (s : Bool × Bool) (c : Ct) : sstep (-lab) (s.2, s.1) c = ((sstep lab s c).2, (sstep lab s c).1) := by
  obtain ⟨tk, tks, uk, uks, label⟩ := c
  simp only [sstep, Int.neg_neg]
  generalize belowS false (.node tk tks) (.node uk uks) = up
  generalize belowS true (.node tk tks) (.node uk uks) = dn
  generalize (label == lab) = b1
  generalize (label == -lab) = b2
  obtain ⟨p, n⟩ := s
  cases b1 <;> cases b2 <;> cases p <;> cases n <;> cases up <;> cases dn <;> rfl
theorem sfold_swap (lab : Int) : ∀ (l : List Ct) (s : Bool × Bool), sfold (-lab) (s.2, s.1) l = ((sfold lab s l).2, (sfold lab s l).1)
  | [], s => rfl
  | c :: l, s => by
    simp only [sfold, List.foldl_cons]
    rw [sstep_swap]
    exact sfold_swap lab l (sstep lab s c)
theorem safeS_swap (lab : Int) (t : Tm) : safeS (-lab) t = ((safeS lab t).2, (safeS lab t).1) := by
  unfold safeS
  split
  · exact sfold_swap lab _ (true, true)
  · rfl
end Go.Proofs.Ytoglfnjankinnaa.E
