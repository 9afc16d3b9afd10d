/- Texts, merged: Pv4, Tm15, Pv5. No conditions. -/
import Derived.Test.YtlboogackecjlaaGreatGenX8
import Derived.Test.YtlboogackecjlaaGreatGenX7
import Derived.Test.YtlboogackecjlaaGreatGenX6
/- proof: the other rules. No conditions. -/
set_option linter.unusedVariables false
set_option linter.unusedSimpArgs false
namespace Go.Proofs.YtlboogackecjlaaGreat.E
open Go
def oTPv4_43_3 : OT := (.op 0 (.op 1 (.op 2 (.op 3 (.op 4 (.op 5 (.op 6 (.op 7 (.op 8 (.alt (.op 9 (.op 10 (.op 11 (.op 12 .nil)))) (.op 10 (.op 9 (.op 11 (.op 12 .nil))))))))))))))
def oTPv4_48_1 : OT := (.op 0 (.op 1 (.op 2 (.op 3 (.op 4 (.op 5 (.alt (.op 6 (.op 7 (.alt (.op 8 (.alt (.op 9 (.op 10 (.op 11 (.op 12 .nil)))) (.op 10 (.alt (.op 9 (.op 11 (.op 12 .nil))) (.op 11 (.op 9 (.op 12 .nil))))))) (.alt (.op 9 (.alt (.op 8 (.op 10 (.op 11 (.op 12 .nil)))) (.op 10 (.op 8 (.op 11 (.op 12 .nil)))))) (.op 10 (.alt (.op 8 (.alt (.op 9 (.op 11 (.op 12 .nil))) (.op 11 (.op 9 (.op 12 .nil))))) (.op 9 (.op 8 (.op 11 (.op 12 .nil)))))))))) (.op 10 (.op 6 (.op 7 (.alt (.op 8 (.alt (.op 9 (.op 11 (.op 12 .nil))) (.op 11 (.op 9 (.op 12 .nil))))) (.op 9 (.op 8 (.op 11 (.op 12 .nil)))))))))))))))
def oTPv4_51_2 : OT := (.op 0 (.op 1 (.op 2 (.op 3 (.op 4 (.op 5 (.alt (.op 6 (.op 7 (.alt (.op 8 (.alt (.op 9 (.op 10 (.op 11 (.op 12 .nil)))) (.op 10 (.alt (.op 9 (.op 11 (.op 12 .nil))) (.op 11 (.op 9 (.op 12 .nil))))))) (.alt (.op 9 (.alt (.op 8 (.op 10 (.op 11 (.op 12 .nil)))) (.op 10 (.op 8 (.op 11 (.op 12 .nil)))))) (.op 10 (.alt (.op 8 (.alt (.op 9 (.op 11 (.op 12 .nil))) (.op 11 (.op 9 (.op 12 .nil))))) (.op 9 (.op 8 (.op 11 (.op 12 .nil)))))))))) (.op 10 (.op 6 (.op 7 (.alt (.op 8 (.alt (.op 9 (.op 11 (.op 12 .nil))) (.op 11 (.op 9 (.op 12 .nil))))) (.op 9 (.op 8 (.op 11 (.op 12 .nil)))))))))))))))

set_option maxRecDepth 10000 in
theorem tab2_call (k : Int) (name arg : ByteArray) (num tk : Int) (tks : List Ty) (uk : Int) (uks : List Ty) (label place : Int) (ks : List Tm) (a : Ty) : ACall Tryz.prog 43 [.c (.d (.rp 0 (Tm.node k name arg num tk tks uk uks label place ks).cells)), .c (.d (.sl 0 2 (Ty.rows [a])))] [] (fun o σ => o = .ret (.tup [(if agreeS a (.node uk uks) then Ty.node 3 [(.node tk tks), (.node uk uks)] else unk).val, .c (.d (.bool (agreeS a (.node uk uks) && ofB 3 (.node tk tks) (.node uk uks))))]) ∧ σ = []) := by
  have c1 := Agree_call a (.node uk uks)
  have c2 := pof_call 3 (.node tk tks) (.node uk uks)
  generalize agreeS a (.node uk uks) = E at *
  generalize ofB 3 (.node tk tks) (.node uk uks) = F at *
  obtain ⟨ka, zas⟩ := a
  refine ACall.body tab_ok (ρ := 0) (N := 27) Tryz.func43 rfl rfl rfl rfl rfl ?_
  repeat' first | ((refine And.intro (⟨by decide, by simp [Ty.rows]⟩ : _ ∧ _) ?_; conv => whnf)) | ((intro row hrow; obtain rfl := Option.some.inj hrow; conv => whnf)) | refine AW.seq ?_ | refine AW.block ?_ | (refine (id : AW _ _ _ (.region 1 _ true) _ _ → _) ?_; refine AW.draw (id := 1) tab_ok mixed [0, 1, 2, 3, 4, 5, 6, 7, 8] (by kernel_rfl) ?_; conv => whnf) | (refine (id : AW _ _ _ (.region 3 _ true) _ _ → _) ?_; refine AW.drawT (id := 3) tab_ok mixed [0, 1, 2, 3, 4, 5, 6, 7, 8, 9, 10, 11, 12] oTPv4_43_3 (by kernel_rfl) ?_; conv => whnf) | (refine Fork.mk ?_ ?_ <;> conv => whnf) | ((first | refine AW.region tab_ok ?_ | refine AW.cond ?_ | refine AW.skip ?_ | refine AW.ret ?_ | refine AW.exit ?_); conv => whnf) | ((first | refine (c1).mono ?_ | refine (c2).mono ?_); rintro _ _ ⟨rfl, rfl⟩; conv => whnf) | ((first | refine And.intro (@rfl Val _) ?_ | refine And.intro (by decide) ?_ | refine cs (fun _ => ?_) (fun _ => ?_)) <;> conv => whnf)
  all_goals first | exact ⟨rfl, rfl⟩ | (cases E <;> cases F <;> first | exact ⟨rfl, rfl⟩ | (exfalso; simp_all))
set_option maxRecDepth 10000 in
theorem tab3_call (k : Int) (name arg : ByteArray) (num tk : Int) (tks : List Ty) (uk : Int) (uks : List Ty) (label place : Int) (ks : List Tm) (a b : Ty) : ACall Tryz.prog 45 [.c (.d (.rp 0 (Tm.node k name arg num tk tks uk uks label place ks).cells)), .c (.d (.sl 0 2 (Ty.rows [a, b])))] [] (fun o σ => o = .ret (.tup [(asR 3 a).val, .c (.d (.bool (asB 3 a && agreeS b (asL 3 a))))]) ∧ σ = []) := by
  have c1 := As_call 3 (by decide) a
  have c2 := Agree_call b (asL 3 a)
  generalize agreeS b (asL 3 a) = E at *
  generalize asR 3 a = r at *
  generalize asL 3 a = l at *
  generalize asB 3 a = F at *
  obtain ⟨ka, zas⟩ := a
  obtain ⟨kb, zbs⟩ := b
  obtain ⟨kr, zrs⟩ := r
  obtain ⟨kl, zls⟩ := l
  refine ACall.body tab_ok (ρ := 0) (N := 26) Tryz.func45 rfl rfl rfl rfl rfl ?_
  repeat' first | ((refine And.intro (⟨by decide, by simp [Ty.rows]⟩ : _ ∧ _) ?_; conv => whnf)) | ((intro row hrow; obtain rfl := Option.some.inj hrow; conv => whnf)) | refine AW.seq ?_ | refine AW.block ?_ | (refine (id : AW _ _ _ (.region 2 _ true) _ _ → _) ?_; refine AW.draw (id := 2) tab_ok mixed [0, 1, 2, 3, 4, 5, 6, 7, 8, 9, 10] (by kernel_rfl) ?_; conv => whnf) | ((first | refine AW.region tab_ok ?_ | refine AW.cond ?_ | refine AW.skip ?_ | refine AW.ret ?_ | refine AW.exit ?_); conv => whnf) | ((first | refine (c1).mono ?_ | refine (c2).mono ?_); rintro _ _ ⟨rfl, rfl⟩; conv => whnf) | ((first | refine And.intro (@rfl Val _) ?_ | refine And.intro (by decide) ?_ | refine cs (fun _ => ?_) (fun _ => ?_)) <;> conv => whnf)
  all_goals first | exact ⟨rfl, rfl⟩ | (cases F <;> cases E <;> first | exact ⟨rfl, rfl⟩ | (exfalso; simp_all))
set_option maxRecDepth 10000 in
theorem tab5_call (k : Int) (name arg : ByteArray) (num tk : Int) (tks : List Ty) (uk : Int) (uks : List Ty) (label place : Int) (ks : List Tm) (a b c : Ty) : ACall Tryz.prog 48 [.c (.d (.rp 0 (Tm.node k name arg num tk tks uk uks label place ks).cells)), .c (.d (.sl 0 2 (Ty.rows [a, b, c])))] [] (fun o σ => o = .ret (.tup [(MeetS b c).val, .c (.d (.bool (agreeS b c && agreeS a (.node 2 []) && decide (tcheck (MeetS b c) = 0))))]) ∧ σ = []) := by
  have c1 := Meet_call b c
  have c2 := Agree_call a (.node 2 [])
  have c3 := check_call (MeetS b c)
  generalize agreeS a (.node 2 []) = E at *
  generalize agreeS b c = F at *
  generalize tcheck (MeetS b c) = G at *
  generalize MeetS b c = m at *
  obtain ⟨ka, zas⟩ := a
  obtain ⟨kb, zbs⟩ := b
  obtain ⟨kc, zcs⟩ := c
  obtain ⟨km, zms⟩ := m
  refine ACall.body tab_ok (ρ := 0) (N := 32) Tryz.func48 rfl rfl rfl rfl rfl ?_
  repeat' first | ((refine And.intro (⟨by decide, by simp [Ty.rows]⟩ : _ ∧ _) ?_; conv => whnf)) | ((intro row hrow; obtain rfl := Option.some.inj hrow; conv => whnf)) | refine AW.seq ?_ | refine AW.block ?_ | (refine (id : AW _ _ _ (.region 1 _ true) _ _ → _) ?_; refine AW.drawT (id := 1) tab_ok mixed [0, 1, 2, 3, 4, 5, 6, 7, 8, 9, 10, 11, 12] oTPv4_48_1 (by kernel_rfl) ?_; conv => whnf) | (refine (id : AW _ _ _ (.region 2 _ true) _ _ → _) ?_; refine AW.draw (id := 2) tab_ok mixed [0, 1, 2, 3, 4, 5, 6, 7, 8, 9, 10, 11, 12, 13, 14, 15] (by kernel_rfl) ?_; conv => whnf) | (refine Fork.mk ?_ ?_ <;> conv => whnf) | ((first | refine AW.region tab_ok ?_ | refine AW.cond ?_ | refine AW.skip ?_ | refine AW.ret ?_ | refine AW.exit ?_); conv => whnf) | ((first | refine (c1).mono ?_ | refine (c2).mono ?_ | refine (c3).mono ?_); rintro _ _ ⟨rfl, rfl⟩; conv => whnf) | ((first | refine And.intro (@rfl Val _) ?_ | refine And.intro (by decide) ?_ | refine cs (fun _ => ?_) (fun _ => ?_)) <;> conv => whnf)
  all_goals first | exact ⟨rfl, rfl⟩ | (cases F <;> cases E <;> first | exact ⟨rfl, rfl⟩ | (exfalso; simp_all))
set_option maxRecDepth 10000 in
theorem tab7_call (k : Int) (name arg : ByteArray) (num tk : Int) (tks : List Ty) (uk : Int) (uks : List Ty) (label place : Int) (ks : List Tm) (a b c : Ty) : ACall Tryz.prog 51 [.c (.d (.rp 0 (Tm.node k name arg num tk tks uk uks label place ks).cells)), .c (.d (.sl 0 2 (Ty.rows [a, b, c])))] [] (fun o σ => o = .ret (.tup [(MeetS b c).val, .c (.d (.bool (asB 5 a && agreeS b c && decide (tcheck (MeetS b c) = 0))))]) ∧ σ = []) := by
  have c1 := Meet_call b c
  have c2 := As_call 5 (by decide) a
  have c3 := check_call (MeetS b c)
  generalize agreeS b c = F at *
  generalize tcheck (MeetS b c) = G at *
  generalize MeetS b c = m at *
  generalize asR 5 a = r at *
  generalize asL 5 a = l at *
  generalize asB 5 a = E at *
  obtain ⟨ka, zas⟩ := a
  obtain ⟨kb, zbs⟩ := b
  obtain ⟨kc, zcs⟩ := c
  obtain ⟨km, zms⟩ := m
  obtain ⟨kr, zrs⟩ := r
  obtain ⟨kl, zls⟩ := l
  refine ACall.body tab_ok (ρ := 0) (N := 39) Tryz.func51 rfl rfl rfl rfl rfl ?_
  repeat' first | ((refine And.intro (⟨by decide, by simp [Ty.rows]⟩ : _ ∧ _) ?_; conv => whnf)) | ((intro row hrow; obtain rfl := Option.some.inj hrow; conv => whnf)) | refine AW.seq ?_ | refine AW.block ?_ | (refine (id : AW _ _ _ (.region 2 _ true) _ _ → _) ?_; refine AW.drawT (id := 2) tab_ok mixed [0, 1, 2, 3, 4, 5, 6, 7, 8, 9, 10, 11, 12] oTPv4_51_2 (by kernel_rfl) ?_; conv => whnf) | (refine (id : AW _ _ _ (.region 3 _ true) _ _ → _) ?_; refine AW.draw (id := 3) tab_ok mixed [0, 1, 2, 3, 4, 5, 6, 7, 8, 9, 10, 11] (by kernel_rfl) ?_; conv => whnf) | (refine Fork.mk ?_ ?_ <;> conv => whnf) | ((first | refine AW.region tab_ok ?_ | refine AW.cond ?_ | refine AW.skip ?_ | refine AW.ret ?_ | refine AW.exit ?_); conv => whnf) | ((first | refine (c1).mono ?_ | refine (c2).mono ?_ | refine (c3).mono ?_); rintro _ _ ⟨rfl, rfl⟩; conv => whnf) | ((first | refine And.intro (@rfl Val _) ?_ | refine And.intro (by decide) ?_ | refine cs (fun _ => ?_) (fun _ => ?_)) <;> conv => whnf)
  all_goals first | exact ⟨rfl, rfl⟩ | (cases E <;> cases F <;> first | exact ⟨rfl, rfl⟩ | (exfalso; simp_all))
set_option maxRecDepth 10000 in
theorem into1_call (k : Int) (name arg : ByteArray) (num tk : Int) (tks : List Ty) (uk : Int) (uks : List Ty) (label place : Int) (ks : List Tm) (a : Ty) (b : Bool) : ACall Tryz.prog 76 [.c (.d (.rp 0 (Tm.node k name arg num tk tks uk uks label place ks).cells)), .c (.d (.sl 0 2 (Ty.rows [a]))), .c (.d (.rp 0 [.bool b]))] [] (fun o σ => o = .ret (.tup [(if asB 5 (.node tk tks) && agreeS a (if b then asR 5 (.node tk tks) else asL 5 (.node tk tks)) then Ty.node 5 [asL 5 (.node tk tks), asR 5 (.node tk tks)] else unk).val, .c (.d (.bool (asB 5 (.node tk tks) && agreeS a (if b then asR 5 (.node tk tks) else asL 5 (.node tk tks)) && ofB 5 (asL 5 (.node tk tks)) (asR 5 (.node tk tks)))))]) ∧ σ = []) := by
  have c1 := As_call 5 (by decide) (.node tk tks)
  have c2 := Agree_call a (asR 5 (.node tk tks))
  have c3 := Agree_call a (asL 5 (.node tk tks))
  have c4 := pof_call 5 (asL 5 (.node tk tks)) (asR 5 (.node tk tks))
  rw [show agreeS a (if b = true then asR 5 (.node tk tks) else asL 5 (.node tk tks)) = (if b = true then agreeS a (asR 5 (.node tk tks)) else agreeS a (asL 5 (.node tk tks))) by split <;> rfl]
  generalize agreeS a (asR 5 (.node tk tks)) = G at *
  generalize agreeS a (asL 5 (.node tk tks)) = H at *
  generalize ofB 5 (asL 5 (.node tk tks)) (asR 5 (.node tk tks)) = F at *
  generalize asR 5 (.node tk tks) = r at *
  generalize asL 5 (.node tk tks) = l at *
  generalize asB 5 (.node tk tks) = E at *
  obtain ⟨ka, zas⟩ := a
  obtain ⟨kr, zrs⟩ := r
  obtain ⟨kl, zls⟩ := l
  refine ACall.body tab_ok (ρ := 0) (N := 39) Tryz.func76 rfl rfl rfl rfl rfl ?_
  repeat' first | ((refine And.intro (⟨by decide, by simp [Ty.rows]⟩ : _ ∧ _) ?_; conv => whnf)) | ((intro row hrow; obtain rfl := Option.some.inj hrow; conv => whnf)) | refine AW.seq ?_ | refine AW.block ?_ | (refine (id : AW _ _ _ (.region 5 _ true) _ _ → _) ?_; refine AW.draw (id := 5) tab_ok mixed [0, 1, 2, 3, 4, 5, 6, 7, 8, 9] (by kernel_rfl) ?_; conv => whnf) | ((first | refine AW.region tab_ok ?_ | refine AW.cond ?_ | refine AW.skip ?_ | refine AW.ret ?_ | refine AW.exit ?_); conv => whnf) | ((first | refine (c1).mono ?_ | refine (c2).mono ?_ | refine (c3).mono ?_ | refine (c4).mono ?_); rintro _ _ ⟨rfl, rfl⟩; conv => whnf) | ((first | refine And.intro (@rfl Val _) ?_ | refine And.intro (by decide) ?_ | refine cs (fun _ => ?_) (fun _ => ?_)) <;> conv => whnf)
  all_goals first | exact ⟨rfl, rfl⟩ | (cases b <;> cases E <;> cases G <;> cases H <;> cases F <;> first | exact ⟨rfl, rfl⟩ | (exfalso; simp_all))
set_option maxRecDepth 10000 in
theorem op_call (k : Int) (name arg : ByteArray) (num tk : Int) (tks : List Ty) (uk : Int) (uks : List Ty) (label place : Int) (ks : List Tm) (a b : Ty) : ACall Tryz.prog 40 [.c (.d (.rp 0 (Tm.node k name arg num tk tks uk uks label place ks).cells)), .c (.d (.sl 0 2 (Ty.rows [a, b])))] [] (fun o σ => o = .ret (.tup [(if name = ⟨#[60]⟩ ∨ name = ⟨#[61]⟩ then Ty.node 2 [] else Ty.node 1 []).val, .c (.d (.bool (agreeS a (.node 1 []) && agreeS b (.node 1 []))))]) ∧ σ = []) := by
  have c1 := Agree_call a (.node 1 [])
  have c2 := Agree_call b (.node 1 [])
  generalize agreeS a (.node 1 []) = E at *
  generalize agreeS b (.node 1 []) = F at *
  obtain ⟨ka, zas⟩ := a
  obtain ⟨kb, zbs⟩ := b
  refine ACall.body tab_ok (ρ := 0) (N := 37) Tryz.func40 rfl rfl rfl rfl rfl ?_
  repeat' first | ((refine And.intro (⟨by decide, by simp [Ty.rows]⟩ : _ ∧ _) ?_; conv => whnf)) | ((intro row hrow; obtain rfl := Option.some.inj hrow; conv => whnf)) | refine AW.seq ?_ | refine AW.block ?_ | (refine (id : AW _ _ _ (.region 2 _ true) _ _ → _) ?_; refine AW.draw (id := 2) tab_ok mixed [0, 1, 2, 3, 4, 5, 6, 7, 8, 9, 10, 11, 12] (by kernel_rfl) ?_; conv => whnf) | ((first | refine AW.region tab_ok ?_ | refine AW.cond ?_ | refine AW.skip ?_ | refine AW.ret ?_ | refine AW.exit ?_); conv => whnf) | ((first | refine (c1).mono ?_ | refine (c2).mono ?_); rintro _ _ ⟨rfl, rfl⟩; conv => whnf) | ((first | refine And.intro (@rfl Val _) ?_ | refine And.intro (by decide) ?_ | refine cs (fun _ => ?_) (fun _ => ?_)) <;> conv => whnf)
  all_goals (cases E <;> cases F <;> first | exact ⟨rfl, rfl⟩ | (split <;> first | exact ⟨rfl, rfl⟩ | (exfalso; simp_all; done)) | (exfalso; simp_all; done))
end Go.Proofs.YtlboogackecjlaaGreat.E

/- Walks: order.each, Has. No conditions. -/
set_option linter.unusedVariables false
set_option linter.unusedSimpArgs false
namespace Go.Proofs.YtlboogackecjlaaGreat.E
open Go

/-! ### Has -/
mutual
def tmhas (q : Int) : Tm → Bool
  | .node k name arg num tk tks uk uks label place ks => decide (k = q) || tmhass q ks
def tmhass (q : Int) : List Tm → Bool
  | [] => false
  | t :: l => tmhas q t || tmhass q l
end
theorem tmhass_take (q : Int) : ∀ (ks : List Tm) (i : Nat) t, ks[i]? = some t → tmhass q (ks.take (i + 1)) = (tmhass q (ks.take i) || tmhas q t)
  | x :: l, 0, t, h => by simp at h; subst h; simp [tmhass]
  | x :: l, i + 1, t, h => by
    simp only [List.getElem?_cons_succ] at h
    have := tmhass_take q l i t h
    simp only [List.take_succ_cons, tmhass, this, Bool.or_assoc]
theorem tmhass_mem (q : Int) : ∀ (ks : List Tm) (t : Tm), t ∈ ks → tmhas q t = true → tmhass q ks = true
  | x :: l, t, hm, h => by
    simp only [tmhass, Bool.or_eq_true]
    rcases List.mem_cons.1 hm with rfl | hm
    · exact .inl h
    · exact .inr (tmhass_mem q l t hm h)
structure TmHasI (q : Int) (ks : List Tm) where
  i : Nat
  hi : i ≤ ks.length
  h : tmhass q (ks.take i) = false
set_option maxRecDepth 10000 in
theorem rhas_call (q : Int) (t : Tm) : tmN t ≤ 8192 → ACall Tryz.prog 55 [t.val, .c (.d (.int .i8 q))] [] (fun o σ => o = .ret (.c (.d (.bool (tmhas q t)))) ∧ σ = []) := by
  induction t using Tm.ind with
  | _ k name arg num tk tks uk uks label place ks ih =>
  intro hN
  have hlen := tmNL_len ks
  simp only [tmN] at hN
  have ih' : ∀ t ∈ ks, ACall Tryz.prog 55 [t.val, .c (.d (.int .i8 q))] [] (fun o σ => o = .ret (.c (.d (.bool (tmhas q t)))) ∧ σ = []) := fun t ht => ih t ht (by have := tmN_mem ks t ht; omega)
  have e : tmhas q (.node k name arg num tk tks uk uks label place ks) = (decide (k = q) || tmhass q ks) := rfl
  rw [e]
  refine ACall.body tab_ok (ρ := 0) (N := 24) Tryz.func55 rfl rfl rfl rfl rfl ?_
  repeat' first | refine AW.seq ?_ | refine AW.block ?_ | ((first | refine AW.region tab_ok ?_ | refine AW.cond ?_ | refine AW.skip ?_ | refine AW.ret ?_ | refine AW.exit ?_); conv => whnf) | ((first | refine And.intro (@rfl Val _) ?_ | refine And.intro (by decide) ?_ | refine cs (fun _ => ?_) (fun _ => ?_)) <;> conv => whnf)
  · rename_i h
    have h : k = q := by simpa using h
    exact ⟨outb (by simp [h]), rfl⟩
  · rename_i h
    have h : k ≠ q := by simpa using h
    rw [show decide (k = q) = false by simp [h], Bool.false_or]
    refine AW.loop (ι := TmHasI q ks) (fun x => ⟨24, [(5, .c (.d (.int .i64 x.i))), (2, .c (.ptr 0 0)), (1, .c (.d (.int .i8 q)))], [.var [.d (.int .i8 k), .d (.str name), .d (.str arg), .d (.int .i64 num), .d (.int .i8 tk), .d (.sl 0 2 (Ty.rows tks)), .d (.int .i8 uk), .d (.sl 0 2 (Ty.rows uks)), .d (.int .i64 label), .d (.int .i64 place), .d (.sl 0 11 (Tm.rows ks))]], []⟩)
      (fun x => ks.length - x.i) ⟨0, Nat.zero_le _, rfl⟩ 1 (fun _ => rfl) (Nat.le_of_ble_eq_true rfl) ⟨⟨rfl, rfl, rfl, trivial⟩, rfl, rfl, ⟨[], rfl⟩, rfl⟩ (fun x => ?_)
    obtain ⟨i, hi, hj⟩ := x
    repeat' first | refine AW.seq ?_ | refine AW.block ?_ | ((first | refine AW.region tab_ok ?_ | refine AW.cond ?_ | refine AW.skip ?_ | refine AW.ret ?_ | refine AW.exit ?_); conv => whnf) | ((first | refine And.intro (@rfl Val _) ?_ | refine And.intro (by decide) ?_ | refine cs (fun _ => ?_) (fun _ => ?_)) <;> conv => whnf)
    · rename_i h2
      simp only [trows_length] at h2 ⊢
      have := of_decide_eq_true h2
      refine ⟨by omega, fun row hrow => ?_⟩
      obtain ⟨⟨kx, namex, argx, numx, tkx, tksx, ukx, uksx, labelx, placex, ksx⟩, ht, rfl⟩ := trows_get ks i row (by simpa using hrow)
      have hlt : i < ks.length := (List.getElem?_eq_some_iff.1 ht).1
      have hmem := List.mem_of_getElem? ht
      have hc := ih' _ hmem
      have hn := tmhass_take q ks i _ ht
      have hf := tmhass_mem q ks _ hmem
      generalize tmhas q (Tm.node kx namex argx numx tkx tksx ukx uksx labelx placex ksx) = b at hc hn hf
      conv => whnf
      repeat' first | refine AW.seq ?_ | refine AW.block ?_ | ((first | refine AW.region tab_ok ?_ | refine AW.cond ?_ | refine AW.skip ?_ | refine AW.ret ?_ | refine AW.exit ?_); conv => whnf) | (refine (hc).mono ?_; rintro _ _ ⟨rfl, rfl⟩; conv => whnf) | ((first | refine And.intro (@rfl Val _) ?_ | refine And.intro (by decide) ?_ | refine cs (fun _ => ?_) (fun _ => ?_)) <;> conv => whnf)
      · rename_i h3
        exact ⟨outb (hf h3).symm, rfl⟩
      · rename_i h3
        rw [wrap64 (x := (i : Int) + 1) (by omega) (by omega)]
        exact ⟨⟨i + 1, hlt, by rw [hn, hj, h3]; rfl⟩, ⟨⟨rfl, rfl, rfl, trivial⟩, rfl, rfl, ⟨[], rfl⟩, rfl⟩, show ks.length - (i + 1) < ks.length - i by omega⟩
    · rename_i h2
      simp only [trows_length] at h2
      have := of_decide_eq_false h2
      obtain rfl : i = ks.length := by omega
      simp only [List.take_length] at hj
      exact ⟨outb hj.symm, rfl⟩
/-! ### each -/
theorem tmtype_right {k name arg num tk tks uk uks label place ks} (h : tmright (.node k name arg num tk tks uk uks label place ks) = true) : (typeK k = true → tright (.node tk tks) = true) ∧ (toK k = true → tright (.node uk uks) = true) := by
  simp [tmright, ownRight] at h
  obtain ⟨⟨⟨⟨_, h1⟩, h2⟩, _⟩, _⟩ := h
  refine ⟨fun q => tcheck_right ?_, fun q => tcheck_right ?_⟩
  · rcases h1 with h1 | h1
    · rw [q] at h1; cases h1
    · exact h1
  · rcases h2 with h2 | h2
    · rw [q] at h2; cases h2
    · exact h2
end Go.Proofs.YtlboogackecjlaaGreat.E

/- proof: cast, sound, name. No conditions. -/
set_option linter.unusedVariables false
set_option linter.unusedSimpArgs false
namespace Go.Proofs.YtlboogackecjlaaGreat.E
open Go

set_option maxRecDepth 10000 in
theorem pcast_call (t : Tm) : tmN t ≤ 8192 → ACall Tryz.prog 32 [.c (.d (.rp 0 t.cells))] [] (fun o σ => o = .ret (.c (.d (.bool (tmhas 17 t)))) ∧ σ = []) := by
  induction t using Tm.ind with
  | _ k name arg num tk tks uk uks label place ks ih =>
  intro hN
  have hlen := tmNL_len ks
  simp only [tmN] at hN
  have ih' : ∀ t ∈ ks, ACall Tryz.prog 32 [.c (.d (.rp 0 t.cells))] [] (fun o σ => o = .ret (.c (.d (.bool (tmhas 17 t)))) ∧ σ = []) := fun t ht => ih t ht (by have := tmN_mem ks t ht; omega)
  have hl8 : ks.length ≤ 8192 := by omega
  clear ih hN hlen
  refine ACall.body tab_ok (ρ := 0) (N := 25) Tryz.func32 rfl rfl rfl rfl rfl ?_
  repeat' first | refine AW.seq ?_ | refine AW.block ?_ | ((first | refine AW.region tab_ok ?_ | refine AW.cond ?_ | refine AW.skip ?_ | refine AW.ret ?_ | refine AW.exit ?_); conv => whnf) | ((first | refine And.intro (@rfl Val _) ?_ | refine And.intro (by decide) ?_ | refine cs (fun _ => ?_) (fun _ => ?_)) <;> conv => whnf)
  refine AW.loop (ι := TmHasI 17 ks) (fun x => ⟨25, [(9, .c (.d (.int .i64 x.i))), (8, .c (.d (.int .i64 (Tm.rows ks).length))), (0, .c (.d (.rp 0 (Tm.node k name arg num tk tks uk uks label place ks).cells)))], [], []⟩)
    (fun x => ks.length - x.i) ⟨0, Nat.zero_le _, by simp [tmhass]⟩ 0 (fun _ => rfl) (Nat.le_of_ble_eq_true rfl) ⟨⟨rfl, rfl, rfl, trivial⟩, rfl, rfl, ⟨[], rfl⟩, rfl⟩ (fun x => ?_)
  obtain ⟨i, hi, hj⟩ := x
  repeat' first | refine AW.seq ?_ | refine AW.block ?_ | ((first | refine AW.region tab_ok ?_ | refine AW.cond ?_ | refine AW.skip ?_ | refine AW.ret ?_ | refine AW.exit ?_); conv => whnf) | ((first | refine And.intro (@rfl Val _) ?_ | refine And.intro (by decide) ?_ | refine cs (fun _ => ?_) (fun _ => ?_)) <;> conv => whnf)
  · rename_i h1
    have h1 : (i : Int) < ((Tm.rows ks).length : Nat) := of_decide_eq_true h1
    refine ⟨⟨by omega, h1⟩, fun row hrow => ?_⟩
    rw [trows_length] at h1
    obtain ⟨x, ht, rfl⟩ := trows_get ks i row (by simpa using hrow)
    have hlt : i < ks.length := by omega
    have hc := ih' x (List.mem_of_getElem? ht)
    have ht1 := tmhass_take 17 ks i _ ht
    have hm1 := tmhass_mem 17 ks x (List.mem_of_getElem? ht)
    rw [hj] at ht1
    generalize tmhas 17 x = bb at hc ht1 hm1
    conv => whnf
    repeat' first | refine AW.seq ?_ | refine AW.block ?_ | ((first | refine AW.region tab_ok ?_ | refine AW.cond ?_ | refine AW.skip ?_ | refine AW.ret ?_ | refine AW.exit ?_); conv => whnf) | (refine (hc).mono ?_; rintro _ _ ⟨rfl, rfl⟩; conv => whnf) | ((first | refine And.intro (@rfl Val _) ?_ | refine And.intro (by decide) ?_ | refine cs (fun _ => ?_) (fun _ => ?_)) <;> conv => whnf)
    · rename_i h2
      subst h2
      refine ⟨outb ?_, rfl⟩
      simp [tmhas, hm1 rfl]
    · rename_i h2
      subst h2
      rw [wrap64 (x := (i : Int) + 1) (by omega) (by omega)]
      exact ⟨⟨i + 1, hlt, by rw [ht1]; rfl⟩, ⟨⟨rfl, rfl, rfl, trivial⟩, rfl, rfl, ⟨[], rfl⟩, rfl⟩, show ks.length - (i + 1) < ks.length - i by omega⟩
  · rename_i h1
    have h1 : ¬ (i : Int) < ((Tm.rows ks).length : Nat) := of_decide_eq_false h1
    rw [trows_length] at h1
    obtain rfl : i = ks.length := by omega
    simp only [List.take_length] at hj
    refine ⟨outb ?_, rfl⟩
    rw [Bool.eq_iff_iff]
    simp [tmhas, hj]
def soundP (t : Tm) : Int := if tmcheck t ≠ 0 then tmcheck t else if tmhas 17 t = true then 30 else 0
set_option maxRecDepth 10000 in
theorem psound_call (t : Tm) : ACall Tryz.prog 18 [.c (.d (.rp 0 t.cells))] [] (fun o σ => o = .ret (.c (.d (.int .i64 (soundP t)))) ∧ σ = []) := by
  have c1 := tmCheck_call t
  by_cases hc : tmcheck t = 0
  · have c2 := pcast_call t (tmcheck_ok hc).1
    have e : soundP t = if tmhas 17 t = true then 30 else 0 := by simp [soundP, hc]
    rw [e]
    rw [hc] at c1
    generalize tmhas 17 t = b at *
    clear hc e
    obtain ⟨k, name, arg, num, tk, tks, uk, uks, label, place, ks⟩ := t
    refine ACall.body tab_ok (ρ := 0) (N := 13) Tryz.func18 rfl rfl rfl rfl rfl ?_
    repeat' first | refine AW.seq ?_ | refine AW.block ?_ | ((first | refine AW.region tab_ok ?_ | refine AW.cond ?_ | refine AW.skip ?_ | refine AW.ret ?_ | refine AW.exit ?_); conv => whnf) | ((first | refine (c1).mono ?_ | refine (c2).mono ?_); rintro _ _ ⟨rfl, rfl⟩; conv => whnf) | ((first | refine And.intro (@rfl Val _) ?_ | refine And.intro (by decide) ?_ | refine cs (fun _ => ?_) (fun _ => ?_)) <;> conv => whnf)
    · rename_i h
      rw [if_pos h]
      exact ⟨rfl, rfl⟩
    · rename_i h
      rw [if_neg (by simp [h])]
      exact ⟨rfl, rfl⟩
  · have e : soundP t = tmcheck t := by simp [soundP, hc]
    rw [e]
    generalize tmcheck t = cc at *
    clear e
    obtain ⟨k, name, arg, num, tk, tks, uk, uks, label, place, ks⟩ := t
    refine ACall.body tab_ok (ρ := 0) (N := 13) Tryz.func18 rfl rfl rfl rfl rfl ?_
    repeat' first | ((refine cs (fun _ => ?_) (fun h => absurd h (by simpa using hc)); conv => whnf)) | refine AW.seq ?_ | refine AW.block ?_ | ((first | refine AW.region tab_ok ?_ | refine AW.cond ?_ | refine AW.skip ?_ | refine AW.ret ?_ | refine AW.exit ?_); conv => whnf) | (refine (c1).mono ?_; rintro _ _ ⟨rfl, rfl⟩; conv => whnf) | ((first | refine And.intro (@rfl Val _) ?_ | refine And.intro (by decide) ?_ | refine cs (fun _ => ?_) (fun _ => ?_)) <;> conv => whnf)
    exact ⟨rfl, rfl⟩
/-- A rule's name. -/
def ruleN (k : Int) : ByteArray := if k = 0 then ⟨#[86, 97, 114]⟩ else if k = 1 then ⟨#[78, 117, 109]⟩ else if k = 2 then ⟨#[89, 101, 115]⟩ else if k = 3 then ⟨#[78, 111]⟩ else if k = 4 then ⟨#[76, 97, 109]⟩ else if k = 5 then ⟨#[82, 101, 99]⟩ else if k = 6 then ⟨#[65, 112, 112]⟩ else if k = 7 then ⟨#[76, 101, 116]⟩ else if k = 8 then ⟨#[73, 102]⟩ else if k = 9 then ⟨#[84, 119, 111]⟩ else if k = 10 then ⟨#[70, 115, 116]⟩ else if k = 11 then ⟨#[83, 110, 100]⟩ else if k = 12 then ⟨#[73, 110, 108]⟩ else if k = 13 then ⟨#[73, 110, 114]⟩ else if k = 14 then ⟨#[67, 97, 115, 101]⟩ else if k = 15 then ⟨#[79, 112]⟩ else if k = 16 then ⟨#[73, 115]⟩ else ⟨#[]⟩
set_option maxRecDepth 10000 in
theorem pname_call (k : Int) (hk : 0 ≤ k ∧ k ≤ 16) : ACall Tryz.prog 33 [.c (.d (.int .i8 k))] [] (fun o σ => o = .ret (.c (.d (.str (ruleN k)))) ∧ σ = []) := by
  rcases (by omega : k = 0 ∨ k = 1 ∨ k = 2 ∨ k = 3 ∨ k = 4 ∨ k = 5 ∨ k = 6 ∨ k = 7 ∨ k = 8 ∨ k = 9 ∨ k = 10 ∨ k = 11 ∨ k = 12 ∨ k = 13 ∨ k = 14 ∨ k = 15 ∨ k = 16) with rfl | rfl | rfl | rfl | rfl | rfl | rfl | rfl | rfl | rfl | rfl | rfl | rfl | rfl | rfl | rfl | rfl
  · skip
    refine ACall.body tab_ok (ρ := 0) (N := 8) Tryz.func33 rfl rfl rfl rfl rfl ?_
    repeat' first | refine AW.seq ?_ | refine AW.block ?_ | ((first | refine AW.region tab_ok ?_ | refine AW.cond ?_ | refine AW.skip ?_ | refine AW.ret ?_ | refine AW.exit ?_); conv => whnf) | ((first | refine And.intro (@rfl Val _) ?_ | refine And.intro (by decide) ?_ | refine cs (fun _ => ?_) (fun _ => ?_)) <;> conv => whnf)
    exact ⟨rfl, rfl⟩
  · skip
    refine ACall.body tab_ok (ρ := 0) (N := 8) Tryz.func33 rfl rfl rfl rfl rfl ?_
    repeat' first | refine AW.seq ?_ | refine AW.block ?_ | ((first | refine AW.region tab_ok ?_ | refine AW.cond ?_ | refine AW.skip ?_ | refine AW.ret ?_ | refine AW.exit ?_); conv => whnf) | ((first | refine And.intro (@rfl Val _) ?_ | refine And.intro (by decide) ?_ | refine cs (fun _ => ?_) (fun _ => ?_)) <;> conv => whnf)
    exact ⟨rfl, rfl⟩
  · skip
    refine ACall.body tab_ok (ρ := 0) (N := 8) Tryz.func33 rfl rfl rfl rfl rfl ?_
    repeat' first | refine AW.seq ?_ | refine AW.block ?_ | ((first | refine AW.region tab_ok ?_ | refine AW.cond ?_ | refine AW.skip ?_ | refine AW.ret ?_ | refine AW.exit ?_); conv => whnf) | ((first | refine And.intro (@rfl Val _) ?_ | refine And.intro (by decide) ?_ | refine cs (fun _ => ?_) (fun _ => ?_)) <;> conv => whnf)
    exact ⟨rfl, rfl⟩
  · skip
    refine ACall.body tab_ok (ρ := 0) (N := 8) Tryz.func33 rfl rfl rfl rfl rfl ?_
    repeat' first | refine AW.seq ?_ | refine AW.block ?_ | ((first | refine AW.region tab_ok ?_ | refine AW.cond ?_ | refine AW.skip ?_ | refine AW.ret ?_ | refine AW.exit ?_); conv => whnf) | ((first | refine And.intro (@rfl Val _) ?_ | refine And.intro (by decide) ?_ | refine cs (fun _ => ?_) (fun _ => ?_)) <;> conv => whnf)
    exact ⟨rfl, rfl⟩
  · skip
    refine ACall.body tab_ok (ρ := 0) (N := 8) Tryz.func33 rfl rfl rfl rfl rfl ?_
    repeat' first | refine AW.seq ?_ | refine AW.block ?_ | ((first | refine AW.region tab_ok ?_ | refine AW.cond ?_ | refine AW.skip ?_ | refine AW.ret ?_ | refine AW.exit ?_); conv => whnf) | ((first | refine And.intro (@rfl Val _) ?_ | refine And.intro (by decide) ?_ | refine cs (fun _ => ?_) (fun _ => ?_)) <;> conv => whnf)
    exact ⟨rfl, rfl⟩
  · skip
    refine ACall.body tab_ok (ρ := 0) (N := 8) Tryz.func33 rfl rfl rfl rfl rfl ?_
    repeat' first | refine AW.seq ?_ | refine AW.block ?_ | ((first | refine AW.region tab_ok ?_ | refine AW.cond ?_ | refine AW.skip ?_ | refine AW.ret ?_ | refine AW.exit ?_); conv => whnf) | ((first | refine And.intro (@rfl Val _) ?_ | refine And.intro (by decide) ?_ | refine cs (fun _ => ?_) (fun _ => ?_)) <;> conv => whnf)
    exact ⟨rfl, rfl⟩
  · skip
    refine ACall.body tab_ok (ρ := 0) (N := 8) Tryz.func33 rfl rfl rfl rfl rfl ?_
    repeat' first | refine AW.seq ?_ | refine AW.block ?_ | ((first | refine AW.region tab_ok ?_ | refine AW.cond ?_ | refine AW.skip ?_ | refine AW.ret ?_ | refine AW.exit ?_); conv => whnf) | ((first | refine And.intro (@rfl Val _) ?_ | refine And.intro (by decide) ?_ | refine cs (fun _ => ?_) (fun _ => ?_)) <;> conv => whnf)
    exact ⟨rfl, rfl⟩
  · skip
    refine ACall.body tab_ok (ρ := 0) (N := 8) Tryz.func33 rfl rfl rfl rfl rfl ?_
    repeat' first | refine AW.seq ?_ | refine AW.block ?_ | ((first | refine AW.region tab_ok ?_ | refine AW.cond ?_ | refine AW.skip ?_ | refine AW.ret ?_ | refine AW.exit ?_); conv => whnf) | ((first | refine And.intro (@rfl Val _) ?_ | refine And.intro (by decide) ?_ | refine cs (fun _ => ?_) (fun _ => ?_)) <;> conv => whnf)
    exact ⟨rfl, rfl⟩
  · skip
    refine ACall.body tab_ok (ρ := 0) (N := 8) Tryz.func33 rfl rfl rfl rfl rfl ?_
    repeat' first | refine AW.seq ?_ | refine AW.block ?_ | ((first | refine AW.region tab_ok ?_ | refine AW.cond ?_ | refine AW.skip ?_ | refine AW.ret ?_ | refine AW.exit ?_); conv => whnf) | ((first | refine And.intro (@rfl Val _) ?_ | refine And.intro (by decide) ?_ | refine cs (fun _ => ?_) (fun _ => ?_)) <;> conv => whnf)
    exact ⟨rfl, rfl⟩
  · skip
    refine ACall.body tab_ok (ρ := 0) (N := 8) Tryz.func33 rfl rfl rfl rfl rfl ?_
    repeat' first | refine AW.seq ?_ | refine AW.block ?_ | ((first | refine AW.region tab_ok ?_ | refine AW.cond ?_ | refine AW.skip ?_ | refine AW.ret ?_ | refine AW.exit ?_); conv => whnf) | ((first | refine And.intro (@rfl Val _) ?_ | refine And.intro (by decide) ?_ | refine cs (fun _ => ?_) (fun _ => ?_)) <;> conv => whnf)
    exact ⟨rfl, rfl⟩
  · skip
    refine ACall.body tab_ok (ρ := 0) (N := 8) Tryz.func33 rfl rfl rfl rfl rfl ?_
    repeat' first | refine AW.seq ?_ | refine AW.block ?_ | ((first | refine AW.region tab_ok ?_ | refine AW.cond ?_ | refine AW.skip ?_ | refine AW.ret ?_ | refine AW.exit ?_); conv => whnf) | ((first | refine And.intro (@rfl Val _) ?_ | refine And.intro (by decide) ?_ | refine cs (fun _ => ?_) (fun _ => ?_)) <;> conv => whnf)
    exact ⟨rfl, rfl⟩
  · skip
    refine ACall.body tab_ok (ρ := 0) (N := 8) Tryz.func33 rfl rfl rfl rfl rfl ?_
    repeat' first | refine AW.seq ?_ | refine AW.block ?_ | ((first | refine AW.region tab_ok ?_ | refine AW.cond ?_ | refine AW.skip ?_ | refine AW.ret ?_ | refine AW.exit ?_); conv => whnf) | ((first | refine And.intro (@rfl Val _) ?_ | refine And.intro (by decide) ?_ | refine cs (fun _ => ?_) (fun _ => ?_)) <;> conv => whnf)
    exact ⟨rfl, rfl⟩
  · skip
    refine ACall.body tab_ok (ρ := 0) (N := 8) Tryz.func33 rfl rfl rfl rfl rfl ?_
    repeat' first | refine AW.seq ?_ | refine AW.block ?_ | ((first | refine AW.region tab_ok ?_ | refine AW.cond ?_ | refine AW.skip ?_ | refine AW.ret ?_ | refine AW.exit ?_); conv => whnf) | ((first | refine And.intro (@rfl Val _) ?_ | refine And.intro (by decide) ?_ | refine cs (fun _ => ?_) (fun _ => ?_)) <;> conv => whnf)
    exact ⟨rfl, rfl⟩
  · skip
    refine ACall.body tab_ok (ρ := 0) (N := 8) Tryz.func33 rfl rfl rfl rfl rfl ?_
    repeat' first | refine AW.seq ?_ | refine AW.block ?_ | ((first | refine AW.region tab_ok ?_ | refine AW.cond ?_ | refine AW.skip ?_ | refine AW.ret ?_ | refine AW.exit ?_); conv => whnf) | ((first | refine And.intro (@rfl Val _) ?_ | refine And.intro (by decide) ?_ | refine cs (fun _ => ?_) (fun _ => ?_)) <;> conv => whnf)
    exact ⟨rfl, rfl⟩
  · skip
    refine ACall.body tab_ok (ρ := 0) (N := 8) Tryz.func33 rfl rfl rfl rfl rfl ?_
    repeat' first | refine AW.seq ?_ | refine AW.block ?_ | ((first | refine AW.region tab_ok ?_ | refine AW.cond ?_ | refine AW.skip ?_ | refine AW.ret ?_ | refine AW.exit ?_); conv => whnf) | ((first | refine And.intro (@rfl Val _) ?_ | refine And.intro (by decide) ?_ | refine cs (fun _ => ?_) (fun _ => ?_)) <;> conv => whnf)
    exact ⟨rfl, rfl⟩
  · skip
    refine ACall.body tab_ok (ρ := 0) (N := 8) Tryz.func33 rfl rfl rfl rfl rfl ?_
    repeat' first | refine AW.seq ?_ | refine AW.block ?_ | ((first | refine AW.region tab_ok ?_ | refine AW.cond ?_ | refine AW.skip ?_ | refine AW.ret ?_ | refine AW.exit ?_); conv => whnf) | ((first | refine And.intro (@rfl Val _) ?_ | refine And.intro (by decide) ?_ | refine cs (fun _ => ?_) (fun _ => ?_)) <;> conv => whnf)
    exact ⟨rfl, rfl⟩
  · skip
    refine ACall.body tab_ok (ρ := 0) (N := 8) Tryz.func33 rfl rfl rfl rfl rfl ?_
    repeat' first | refine AW.seq ?_ | refine AW.block ?_ | ((first | refine AW.region tab_ok ?_ | refine AW.cond ?_ | refine AW.skip ?_ | refine AW.ret ?_ | refine AW.exit ?_); conv => whnf) | ((first | refine And.intro (@rfl Val _) ?_ | refine And.intro (by decide) ?_ | refine cs (fun _ => ?_) (fun _ => ?_)) <;> conv => whnf)
    exact ⟨rfl, rfl⟩
end Go.Proofs.YtlboogackecjlaaGreat.E
