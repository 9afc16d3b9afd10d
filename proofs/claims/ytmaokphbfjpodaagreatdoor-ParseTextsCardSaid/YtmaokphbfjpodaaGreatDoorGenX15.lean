/- Texts, merged: Rs2, Rs3, Rs4, Tm14, Tmd, On0, Cl1, Pl1, Pl2, Pl3, Pl4. No conditions. -/
import Derived.Test.YtmaokphbfjpodaaGreatDoorGenX13
import Derived.Test.YtmaokphbfjpodaaGreatDoorGenX14
import Derived.Test.YtmaokphbfjpodaaGreatDoorGenX4
import Derived.Test.YtmaokphbfjpodaaGreatDoorGenX11
/- Walks: the document's scanner: Number, word, All. No conditions. -/
set_option linter.unusedVariables false
set_option linter.unusedSimpArgs false
namespace Go.Proofs.YtmaokphbfjpodaaGreatDoor.E
open Go

def numV (o : Option Nat) : Val := match o with
  | none => .tup [.c (.d (.int .i64 0)), .c (.d (.bool false))]
  | some v => .tup [.c (.d (.int .i64 v)), .c (.d (.bool true))]
set_option maxRecDepth 10000 in
set_option maxHeartbeats 1000000 in
theorem rNumber_call (w : ByteArray) (hs : w.size ≤ 1000000) (hd : ∀ c ∈ w.data.toList, digitF c.toNat = true) :
    ACall Tryz.prog 82 [.c (.d (.str w))] [] (fun o σ => o = .ret (numV (numL 0 w.data.toList)) ∧ σ = []) := by
  have hl : w.data.toList.length = w.size := rfl
  refine ACall.body tab_ok (ρ := 0) (N := 28) Tryz.func82 rfl rfl rfl rfl rfl ?_
  repeat' first | refine AW.seq ?_ | refine AW.block ?_ | ((first | refine AW.region tab_ok ?_ | refine AW.cond ?_ | refine AW.skip ?_ | refine AW.ret ?_ | refine AW.exit ?_); conv => whnf) | ((first | refine And.intro (@rfl Val _) ?_ | refine And.intro (by decide) ?_ | refine cs (fun _ => ?_) (fun _ => ?_)) <;> conv => whnf)
  refine AW.loop (ι := NmI w.data.toList) (fun x => ⟨28, [(5, .c (.d (.int .i64 x.i))), (4, .c (.d (.int .i64 x.v))), (0, .c (.d (.str w)))], [], []⟩)
    (fun x => w.size - x.i) ⟨0, Nat.zero_le _, 0, by decide, by simp⟩ 0 (fun _ => rfl) (Nat.le_of_ble_eq_true rfl) ⟨⟨rfl, rfl, rfl, trivial⟩, rfl, rfl, ⟨[], rfl⟩, rfl⟩ (fun x => ?_)
  obtain ⟨i, hi, v, hv, hx⟩ := x
  dsimp only
  by_cases hlt : i < w.data.toList.length
  · have hdd : decide ((i : Int) < (w.size : Int)) = true := by rw [← hl]; simp; omega
    have hb : (0 : Int) ≤ (i : Int) ∧ (i : Int) < (w.size : Int) := by omega
    obtain ⟨c, hc⟩ : ∃ c, w.data.toList[i]? = some c := ⟨_, List.getElem?_eq_getElem hlt⟩
    have hbc : byteAt w (i : Nat) = (c.toNat : Int) := by
      unfold byteAt
      rw [show ((i : Nat) : Int).toNat = i from rfl, hc]
      rfl
    have hdc := hd c (List.mem_of_getElem? hc)
    simp only [digitF, Bool.and_eq_true, decide_eq_true_eq] at hdc
    have hw1 : IntKind.u8.wrap (byteAt w (i : Nat) - 48) = ((c.toNat - 48 : Nat) : Int) := by
      rw [hbc]
      have : c.toNat = 48 ∨ c.toNat = 49 ∨ c.toNat = 50 ∨ c.toNat = 51 ∨ c.toNat = 52 ∨ c.toNat = 53 ∨ c.toNat = 54 ∨ c.toNat = 55 ∨ c.toNat = 56 ∨ c.toNat = 57 := by omega
      rcases this with h | h | h | h | h | h | h | h | h | h <;> rw [h] <;> decide
    have hd9 : c.toNat - 48 ≤ 9 := by omega
    have hdr : w.data.toList.drop i = c :: w.data.toList.drop (i + 1) := by
      rw [List.drop_eq_getElem_cons hlt, ← (List.getElem?_eq_some_iff.1 hc).2]
    have e1 : IntKind.i64.wrap ((c.toNat - 48 : Nat) : Int) = ((c.toNat - 48 : Nat) : Int) := wrap64 (by omega) (by omega)
    have e2 : IntKind.i64.wrap ((IntKind.i64.wrap (9223372036854775807 - ((c.toNat - 48 : Nat) : Int))).tdiv 10) = (((9223372036854775807 - (c.toNat - 48)) / 10 : Nat) : Int) := by
      rw [wrap64 (x := 9223372036854775807 - ((c.toNat - 48 : Nat) : Int)) (by omega) (by omega), Int.tdiv_eq_ediv_of_nonneg (by omega), wrap64 (by omega) (by omega)]
      omega
    repeat' first | ((refine cs (fun _ => ?_) (fun g => absurd (hdd.symm.trans g) (by decide)); conv => whnf)) | ((refine And.intro hb ?_; conv => whnf)) | ((rw [hw1]; conv => whnf)) | ((rw [e1]; conv => whnf)) | refine AW.seq ?_ | refine AW.block ?_ | ((first | refine AW.region tab_ok ?_ | refine AW.cond ?_ | refine AW.skip ?_ | refine AW.ret ?_ | refine AW.exit ?_); conv => whnf) | ((first | refine And.intro (@rfl Val _) ?_ | refine And.intro (by decide) ?_ | refine cs (fun _ => ?_) (fun _ => ?_)) <;> conv => whnf)
    all_goals
      rename_i h3
      rw [e2] at h3
      first
        | (have h4 : v > (9223372036854775807 - (c.toNat - 48)) / 10 := by have := of_decide_eq_true h3; omega
           rw [hx, hdr, numL, if_pos h4]
           exact ⟨rfl, rfl⟩)
        | (have h4 : ¬ v > (9223372036854775807 - (c.toNat - 48)) / 10 := by have := of_decide_eq_false h3; omega
           have e3 : IntKind.i64.wrap (IntKind.i64.wrap ((v : Int) * 10) + ((c.toNat - 48 : Nat) : Int)) = ((v * 10 + (c.toNat - 48) : Nat) : Int) := by
             rw [wrap64 (x := (v : Int) * 10) (by omega) (by omega), wrap64 (by omega) (by omega)]
             omega
           rw [e3, wrap64 (x := (i : Int) + 1) (by omega) (by omega)]
           exact ⟨⟨i + 1, hlt, v * 10 + (c.toNat - 48), by omega, by rw [hx, hdr, numL, if_neg h4]⟩, ⟨⟨rfl, rfl, rfl, trivial⟩, rfl, rfl, ⟨[], rfl⟩, rfl⟩, show w.size - (i + 1) < w.size - i by omega⟩)
       
  · have hdd : decide ((i : Int) < (w.size : Int)) = false := by rw [← hl]; simp; omega
    repeat' first | ((refine cs (fun g => absurd (hdd.symm.trans g) (by decide)) (fun _ => ?_); conv => whnf)) | refine AW.seq ?_ | refine AW.block ?_ | ((first | refine AW.region tab_ok ?_ | refine AW.cond ?_ | refine AW.skip ?_ | refine AW.ret ?_ | refine AW.exit ?_); conv => whnf) | ((first | refine And.intro (@rfl Val _) ?_ | refine And.intro (by decide) ?_ | refine cs (fun _ => ?_) (fun _ => ?_)) <;> conv => whnf)
    rw [hx, List.drop_eq_nil_of_le (by omega), numL]
    first | exact ⟨rfl, rfl⟩
def wdZ : Val := .agg [.d (.int .i8 0), .d (.str ⟨#[]⟩), .d (.int .i64 0), .d (.int .i64 0)]
end Go.Proofs.YtmaokphbfjpodaaGreatDoor.E

/- Walks: the document's scanner: word, All. No conditions. -/
set_option linter.unusedVariables false
set_option linter.unusedSimpArgs false
namespace Go.Proofs.YtmaokphbfjpodaaGreatDoor.E
open Go
def oTRs3_39_23 : OT := (.op 0 (.op 1 (.op 2 (.op 3 (.op 4 (.op 5 (.alt (.op 6 (.op 7 (.op 8 (.op 9 (.op 10 .nil))))) (.op 8 (.alt (.op 6 (.op 7 (.op 9 (.op 10 .nil)))) (.op 9 (.op 6 (.op 7 (.op 10 .nil)))))))))))))

/-- What word tells. -/
def rwordO (s : ByteArray) (p : Nat) : Out := match wordL p (restL s p) with
  | .error (e, w) => .ret (.tup [wdZ, .c (.d (.int .i64 0)), flcV e p w])
  | .ok w => .ret (.tup [.agg (w.cells.map .d), .c (.d (.int .i64 (p + w.text.size : Nat))), flcV 0 0 ⟨#[]⟩])
theorem rwordO_err {s : ByteArray} {p : Nat} {o : Out} {e : Int} {w : ByteArray} (h : wordL p (restL s p) = .error (e, w)) (h1 : o = .ret (.tup [wdZ, .c (.d (.int .i64 0)), flcV e p w])) : o = rwordO s p := by
  unfold rwordO; rw [h]; exact h1
theorem rwordO_ok {s : ByteArray} {p : Nat} {o : Out} {w : Wd} (h : wordL p (restL s p) = .ok w) (h1 : o = .ret (.tup [.agg (w.cells.map .d), .c (.d (.int .i64 (p + w.text.size : Nat))), flcV 0 0 ⟨#[]⟩])) : o = rwordO s p := by
  unfold rwordO; rw [h]; exact h1
theorem ext_byte {s : ByteArray} {p n : Nat} (h : p < s.size) (hn : 1 ≤ n) : byteAt (s.extract p (p + n)) 0 = byteAt s (p : Nat) := by
  have : byteAt (s.extract p (p + n)) ((0 : Nat) : Int) = (((s.get! p).toNat : Nat) : Int) := by
    unfold byteAt
    rw [extract_rest, restL_get h, show n = (n - 1) + 1 by omega, List.take_succ_cons]
    rfl
  rw [byteAt_get h]
  exact this
theorem numF_none {s : ByteArray} {p : Nat} {w : ByteArray} (h : numL 0 w.data.toList = none) : numF s p w = .error 3 := by unfold numF; rw [h]
theorem numF_bad {s : ByteArray} {p v : Nat} {w : ByteArray} (h : numL 0 w.data.toList = some v) (hc : (w.size > 1 ∧ byteAt w 0 = 48) ∨ (p + w.size < s.size ∧ letterF (byteAt s (p + w.size : Nat)) = true)) : numF s p w = .error 10 := by unfold numF; rw [h]; exact if_pos hc
theorem numF_ok {s : ByteArray} {p v : Nat} {w : ByteArray} (h : numL 0 w.data.toList = some v) (hc : ¬ ((w.size > 1 ∧ byteAt w 0 = 48) ∨ (p + w.size < s.size ∧ letterF (byteAt s (p + w.size : Nat)) = true))) : numF s p w = .ok v := by unfold numF; rw [h]; exact if_neg hc
set_option maxRecDepth 10000 in
set_option maxHeartbeats 2000000 in
theorem rword_call (s : ByteArray) (p : Nat) (h : p < s.size) (hs : s.size ≤ 900000) :
    ACall Tryz.prog 39 [.c (.d (.str s)), .c (.d (.int .i64 p))] [] (fun o σ => o = rwordO s p ∧ σ = []) := by
  have c1 := rletter_call (byteAt s (p : Nat))
  have c2 := rdigit_call (byteAt s (p : Nat))
  have c3 := rsign_call (byteAt s (p : Nat))
  have hT := spanL_le true (restL s p)
  have hF := spanL_le false (restL s p)
  rw [restL_len] at hT hF
  have sz : ∀ n, p + n ≤ s.size → (s.extract p (p + n)).size = n := fun n hn => by simp; omega
  have rT := rrun_call s p true (by omega) (by omega)
  have rF := rrun_call s p false (by omega) (by omega)
  have ck := rkey_call (s.extract p (p + spanL true (restL s p)))
  have nm := rNumber_call (s.extract p (p + spanL false (restL s p))) (by rw [sz _ (by omega)]; omega) (by rw [extract_rest]; exact spanL_digits _)
  have c4 := rletter_call (byteAt s (p + spanL false (restL s p) : Nat))
  have wl := fun hc => word_letter h hc
  have wd := fun hl hc => word_digit h hl hc
  have hp1 : digitF (byteAt s (p : Nat)) = true → 1 ≤ spanL false (restL s p) := fun q => by rw [sp_f false h, if_pos (by rw [Bool.or_eq_true]; exact .inl q)]; omega
  have ws := fun hl hd h45 hm => word_sign h hl hd h45 hm
  have wn := fun hl hd h45 hm => word_none h hl hd h45 hm
  have wa := fun h45 h2 h3 => word_arrow h h45 h2 h3
  have wh := fun h45 h2 => word_dash h h45 h2
  have fe := @rwordO_err s p
  have fo := @rwordO_ok s p
  generalize spanL true (restL s p) = nT at *
  generalize spanL false (restL s p) = nF at *
  generalize wordL p (restL s p) = wv at *
  have hw1 : IntKind.i64.wrap ((p : Int) + 1) = ((p + 1 : Nat) : Int) := by rw [wrap64 (by omega) (by omega)]; omega
  have hw2 : IntKind.i64.wrap ((p : Int) + 2) = ((p + 2 : Nat) : Int) := by rw [wrap64 (by omega) (by omega)]; omega
  have hb0 : (0 : Int) ≤ (p : Int) ∧ (p : Int) < (s.size : Int) := by omega
  have sT := sz nT (by omega)
  have sF := sz nF (by omega)
  have s1 := sz 1 (by omega)
  have eb : 1 ≤ nF → byteAt (s.extract p (p + nF)) 0 = byteAt s (p : Nat) := fun q => ext_byte h q
  generalize hxT : s.extract p (p + nT) = xT at *
  generalize hxF : s.extract p (p + nF) = xF at *
  generalize hx1 : s.extract p (p + 1) = x1 at *
  have hbT : (0 : Int) ≤ (p : Int) ∧ (p : Int) ≤ ((p + nT : Nat) : Int) ∧ ((p + nT : Nat) : Int) ≤ (s.size : Int) := by omega
  have hbF : (0 : Int) ≤ (p : Int) ∧ (p : Int) ≤ ((p + nF : Nat) : Int) ∧ ((p + nF : Nat) : Int) ≤ (s.size : Int) := by omega
  have hb1 : (0 : Int) ≤ (p : Int) ∧ (p : Int) ≤ ((p + 1 : Nat) : Int) ∧ ((p + 1 : Nat) : Int) ≤ (s.size : Int) := by omega
  have gT : s.extract ((p : Nat) : Int).toNat ((p + nT : Nat) : Int).toNat = xT := hxT
  have gF : s.extract ((p : Nat) : Int).toNat ((p + nF : Nat) : Int).toNat = xF := hxF
  have g1 : s.extract ((p : Nat) : Int).toNat ((p + 1 : Nat) : Int).toNat = x1 := hx1
  generalize rwordO s p = O at *
  cases hlet : letterF (byteAt s (p : Nat)) with
  | true =>
    rw [hlet] at c1
    refine ACall.body tab_ok (ρ := 0) (N := 139) Tryz.func39 rfl rfl rfl rfl rfl ?_
    repeat' first | ((refine And.intro hb0 ?_; conv => whnf)) | ((refine And.intro hbT ?_; rw [gT]; conv => whnf)) | refine AW.seq ?_ | refine AW.block ?_ | (refine (_root_.id : AW _ _ _ (.region 23 _ true) _ _ → _) ?_; refine AW.drawT (id := 23) tab_ok mixed [0, 1, 2, 3, 4, 5, 6, 7, 8, 9, 10] oTRs3_39_23 (by kernel_rfl) ?_; conv => whnf) | (refine Fork.mk ?_ ?_ <;> conv => whnf) | ((first | refine AW.region tab_ok ?_ | refine AW.cond ?_ | refine AW.skip ?_ | refine AW.ret ?_ | refine AW.exit ?_); conv => whnf) | ((first | refine (c1).mono ?_ | refine (rT).mono ?_ | refine (ck).mono ?_); rintro _ _ ⟨rfl, rfl⟩; conv => whnf) | ((first | refine And.intro (@rfl Val _) ?_ | refine And.intro (by decide) ?_ | refine cs (fun _ => ?_) (fun _ => ?_)) <;> conv => whnf)
    all_goals
      clear c1 c2 c3 rT rF ck nm c4
      refine ⟨?_, rfl⟩
      try simp only [decide_eq_true_eq, decide_eq_false_iff_not, beq_iff_eq, beq_eq_false_iff_ne, ne_eq, cond_true, cond_false, gt_iff_lt, isSig, Bool.or_eq_true, Bool.or_eq_false_iff] at *
      first
        | exact fe (e := 3) (w := xT) (by rw [wl hlet, if_pos (by omega)]) rfl
        | exact fo (w := ⟨3, xT, 0, p⟩) (by rw [wl hlet, if_neg (by omega), if_pos (by assumption)]) (by rw [sT]; rfl)
        | exact fo (w := ⟨1, xT, 0, p⟩) (by rw [wl hlet, if_neg (by omega), if_neg (by simp only [Bool.not_eq_true]; assumption)]) (by rw [sT]; rfl)
       
  | false =>
    rw [hlet] at c1
    cases hdig : digitF (byteAt s (p : Nat)) with
    | true =>
      rw [hdig] at c2
      rcases hv : numL 0 xF.data.toList with _ | v <;> rw [hv] at nm <;> unfold numV at nm
      all_goals
        by_cases hq : p + nF < s.size
        · have hd : decide (((p + nF : Nat) : Int) < (s.size : Int)) = true := by simp; omega
          have hbq : (0 : Int) ≤ ((p + nF : Nat) : Int) ∧ ((p + nF : Nat) : Int) < (s.size : Int) := by omega
          refine ACall.body tab_ok (ρ := 0) (N := 139) Tryz.func39 rfl rfl rfl rfl rfl ?_
          repeat' first | ((refine And.intro hb0 ?_; conv => whnf)) | ((refine And.intro hbq ?_; conv => whnf)) | ((refine And.intro hbF ?_; rw [gF]; conv => whnf)) | ((refine cs (fun _ => ?_) (fun g => absurd (hd.symm.trans g) (by decide)); conv => whnf)) | refine AW.seq ?_ | refine AW.block ?_ | (refine (_root_.id : AW _ _ _ (.region 23 _ true) _ _ → _) ?_; refine AW.drawT (id := 23) tab_ok mixed [0, 1, 2, 3, 4, 5, 6, 7, 8, 9, 10] oTRs3_39_23 (by kernel_rfl) ?_; conv => whnf) | (refine Fork.mk ?_ ?_ <;> conv => whnf) | ((first | refine AW.region tab_ok ?_ | refine AW.cond ?_ | refine AW.skip ?_ | refine AW.ret ?_ | refine AW.exit ?_); conv => whnf) | ((first | refine (c1).mono ?_ | refine (c2).mono ?_ | refine (rF).mono ?_ | refine (nm).mono ?_ | refine (c4).mono ?_); rintro _ _ ⟨rfl, rfl⟩; conv => whnf) | ((first | refine And.intro (@rfl Val _) ?_ | refine And.intro (by decide) ?_ | refine cs (fun _ => ?_) (fun _ => ?_)) <;> conv => whnf)
          all_goals
            clear c1 c2 c3 rT rF ck nm c4
            refine ⟨?_, rfl⟩
            try simp only [decide_eq_true_eq, decide_eq_false_iff_not, beq_iff_eq, beq_eq_false_iff_ne, ne_eq, cond_true, cond_false, gt_iff_lt, isSig, Bool.or_eq_true, Bool.or_eq_false_iff] at *
            first
              | exact fe (e := 3) (w := xF) (by rw [wd hlet hdig, numF_none hv]) rfl
              | exact fe (e := 10) (w := xF) (by rw [wd hlet hdig, numF_bad hv (.inl ⟨by omega, (eb (hp1 hdig)).trans (by assumption)⟩)]) rfl
              | exact fe (e := 10) (w := xF) (by rw [wd hlet hdig, numF_bad hv (.inr (by rw [sF]; exact ⟨by omega, by assumption⟩))]) rfl
              | exact fo (w := ⟨2, xF, v, p⟩) (by rw [wd hlet hdig, numF_ok hv (by rw [eb (hp1 hdig), sF]; rintro (⟨q1, q2⟩ | ⟨q1, q2⟩) <;> first | omega | contradiction | simp_all)]) (by rw [sF]; rfl)
             
        · have hd : decide (((p + nF : Nat) : Int) < (s.size : Int)) = false := by simp; omega
          refine ACall.body tab_ok (ρ := 0) (N := 139) Tryz.func39 rfl rfl rfl rfl rfl ?_
          repeat' first | ((refine And.intro hb0 ?_; conv => whnf)) | ((refine And.intro hbF ?_; rw [gF]; conv => whnf)) | ((refine cs (fun g => absurd (hd.symm.trans g) (by decide)) (fun _ => ?_); conv => whnf)) | refine AW.seq ?_ | refine AW.block ?_ | (refine (_root_.id : AW _ _ _ (.region 23 _ true) _ _ → _) ?_; refine AW.drawT (id := 23) tab_ok mixed [0, 1, 2, 3, 4, 5, 6, 7, 8, 9, 10] oTRs3_39_23 (by kernel_rfl) ?_; conv => whnf) | (refine Fork.mk ?_ ?_ <;> conv => whnf) | ((first | refine AW.region tab_ok ?_ | refine AW.cond ?_ | refine AW.skip ?_ | refine AW.ret ?_ | refine AW.exit ?_); conv => whnf) | ((first | refine (c1).mono ?_ | refine (c2).mono ?_ | refine (rF).mono ?_ | refine (nm).mono ?_ | refine (c4).mono ?_); rintro _ _ ⟨rfl, rfl⟩; conv => whnf) | ((first | refine And.intro (@rfl Val _) ?_ | refine And.intro (by decide) ?_ | refine cs (fun _ => ?_) (fun _ => ?_)) <;> conv => whnf)
          all_goals
            clear c1 c2 c3 rT rF ck nm c4
            refine ⟨?_, rfl⟩
            try simp only [decide_eq_true_eq, decide_eq_false_iff_not, beq_iff_eq, beq_eq_false_iff_ne, ne_eq, cond_true, cond_false, gt_iff_lt, isSig, Bool.or_eq_true, Bool.or_eq_false_iff] at *
            first
              | exact fe (e := 3) (w := xF) (by rw [wd hlet hdig, numF_none hv]) rfl
              | exact fe (e := 10) (w := xF) (by rw [wd hlet hdig, numF_bad hv (.inl ⟨by omega, (eb (hp1 hdig)).trans (by assumption)⟩)]) rfl
              | exact fe (e := 10) (w := xF) (by rw [wd hlet hdig, numF_bad hv (.inr (by rw [sF]; exact ⟨by omega, by assumption⟩))]) rfl
              | exact fo (w := ⟨2, xF, v, p⟩) (by rw [wd hlet hdig, numF_ok hv (by rw [eb (hp1 hdig), sF]; rintro (⟨q1, q2⟩ | ⟨q1, q2⟩) <;> first | omega | contradiction | simp_all)]) (by rw [sF]; rfl)
             
    | false =>
      rw [hdig] at c2
      by_cases hq : p + 1 < s.size
      · have hd : decide (((p + 1 : Nat) : Int) < (s.size : Int)) = true := by simp; omega
        have hbq : (0 : Int) ≤ ((p + 1 : Nat) : Int) ∧ ((p + 1 : Nat) : Int) < (s.size : Int) := by omega
        refine ACall.body tab_ok (ρ := 0) (N := 139) Tryz.func39 rfl rfl rfl rfl rfl ?_
        repeat' first | ((refine And.intro hb0 ?_; conv => whnf)) | ((rw [hw1]; conv => whnf)) | ((rw [hw2]; conv => whnf)) | ((refine And.intro hbq ?_; conv => whnf)) | ((refine And.intro hb1 ?_; rw [g1]; conv => whnf)) | ((refine cs (fun _ => ?_) (fun g => absurd (hd.symm.trans g) (by decide)); conv => whnf)) | refine AW.seq ?_ | refine AW.block ?_ | (refine (_root_.id : AW _ _ _ (.region 23 _ true) _ _ → _) ?_; refine AW.drawT (id := 23) tab_ok mixed [0, 1, 2, 3, 4, 5, 6, 7, 8, 9, 10] oTRs3_39_23 (by kernel_rfl) ?_; conv => whnf) | (refine Fork.mk ?_ ?_ <;> conv => whnf) | ((first | refine AW.region tab_ok ?_ | refine AW.cond ?_ | refine AW.skip ?_ | refine AW.ret ?_ | refine AW.exit ?_); conv => whnf) | ((first | refine (c1).mono ?_ | refine (c2).mono ?_ | refine (c3).mono ?_); rintro _ _ ⟨rfl, rfl⟩; conv => whnf) | ((first | refine And.intro (@rfl Val _) ?_ | refine And.intro (by decide) ?_ | refine cs (fun _ => ?_) (fun _ => ?_)) <;> conv => whnf)
        all_goals
          clear c1 c2 c3 rT rF ck nm c4
          refine ⟨?_, rfl⟩
          try simp only [decide_eq_true_eq, decide_eq_false_iff_not, beq_iff_eq, beq_eq_false_iff_ne, ne_eq, cond_true, cond_false, gt_iff_lt, isSig, Bool.or_eq_true, Bool.or_eq_false_iff] at *
          first
            | exact fo (w := ⟨4, ⟨#[45, 62]⟩, 0, p⟩) (wa (by assumption) (by omega) (by assumption)) rfl
            | exact fo (w := ⟨4, x1, 0, p⟩) (wh (by assumption) (fun q => by have := q.1; omega)) (by rw [s1]; rfl)
            | exact fo (w := ⟨4, x1, 0, p⟩) (wh (by assumption) (fun q => absurd q.2 (by assumption))) (by rw [s1]; rfl)
            | exact fo (w := ⟨4, x1, 0, p⟩) (ws hlet hdig (by assumption) (by rename_i hs; rcases hs with hs | hs; exact hs; exact absurd hs (by assumption))) (by rw [s1]; rfl)
            | exact fe (e := 10) (w := x1) (by rename_i hs; exact wn hlet hdig hs.2 hs.1) rfl
            | (exfalso; rename_i hs; exact hs.2 (by assumption))
           
      · have hd : decide (((p + 1 : Nat) : Int) < (s.size : Int)) = false := by simp; omega
        refine ACall.body tab_ok (ρ := 0) (N := 139) Tryz.func39 rfl rfl rfl rfl rfl ?_
        repeat' first | ((refine And.intro hb0 ?_; conv => whnf)) | ((rw [hw1]; conv => whnf)) | ((rw [hw2]; conv => whnf)) | ((refine And.intro hb1 ?_; rw [g1]; conv => whnf)) | ((refine cs (fun g => absurd (hd.symm.trans g) (by decide)) (fun _ => ?_); conv => whnf)) | refine AW.seq ?_ | refine AW.block ?_ | (refine (_root_.id : AW _ _ _ (.region 23 _ true) _ _ → _) ?_; refine AW.drawT (id := 23) tab_ok mixed [0, 1, 2, 3, 4, 5, 6, 7, 8, 9, 10] oTRs3_39_23 (by kernel_rfl) ?_; conv => whnf) | (refine Fork.mk ?_ ?_ <;> conv => whnf) | ((first | refine AW.region tab_ok ?_ | refine AW.cond ?_ | refine AW.skip ?_ | refine AW.ret ?_ | refine AW.exit ?_); conv => whnf) | ((first | refine (c1).mono ?_ | refine (c2).mono ?_ | refine (c3).mono ?_); rintro _ _ ⟨rfl, rfl⟩; conv => whnf) | ((first | refine And.intro (@rfl Val _) ?_ | refine And.intro (by decide) ?_ | refine cs (fun _ => ?_) (fun _ => ?_)) <;> conv => whnf)
        all_goals
          clear c1 c2 c3 rT rF ck nm c4
          refine ⟨?_, rfl⟩
          try simp only [decide_eq_true_eq, decide_eq_false_iff_not, beq_iff_eq, beq_eq_false_iff_ne, ne_eq, cond_true, cond_false, gt_iff_lt, isSig, Bool.or_eq_true, Bool.or_eq_false_iff] at *
          first
            | exact fo (w := ⟨4, ⟨#[45, 62]⟩, 0, p⟩) (wa (by assumption) (by omega) (by assumption)) rfl
            | exact fo (w := ⟨4, x1, 0, p⟩) (wh (by assumption) (fun q => by have := q.1; omega)) (by rw [s1]; rfl)
            | exact fo (w := ⟨4, x1, 0, p⟩) (wh (by assumption) (fun q => absurd q.2 (by assumption))) (by rw [s1]; rfl)
            | exact fo (w := ⟨4, x1, 0, p⟩) (ws hlet hdig (by assumption) (by rename_i hs; rcases hs with hs | hs; exact hs; exact absurd hs (by assumption))) (by rw [s1]; rfl)
            | exact fe (e := 10) (w := x1) (by rename_i hs; exact wn hlet hdig hs.2 hs.1) rfl
            | (exfalso; rename_i hs; exact hs.2 (by assumption))
           
end Go.Proofs.YtmaokphbfjpodaaGreatDoor.E

/- Walks: the document's scanner: All. No conditions. -/
set_option linter.unusedVariables false
set_option linter.unusedSimpArgs false
namespace Go.Proofs.YtmaokphbfjpodaaGreatDoor.E
open Go

theorem rwordO_cases (s : ByteArray) (p : Nat) : (∃ e w, wordL p (restL s p) = .error (e, w) ∧ rwordO s p = .ret (.tup [wdZ, .c (.d (.int .i64 0)), flcV e p w])) ∨
    (∃ w, wordL p (restL s p) = .ok w ∧ rwordO s p = .ret (.tup [.agg (w.cells.map .d), .c (.d (.int .i64 (p + w.text.size : Nat))), flcV 0 0 ⟨#[]⟩])) := by
  unfold rwordO
  cases wordL p (restL s p) with
  | error x => exact .inl ⟨x.1, x.2, rfl, rfl⟩
  | ok w => exact .inr ⟨w, rfl, rfl⟩
/-- What All tells. -/
def rallO (s : ByteArray) : Out := match scanF s with
  | .error (e, a, w) => .ret (.tup [.c (.d (.sl 0 4 [])), flcV e a w])
  | .ok l => .ret (.tup [.c (.d (.sl 0 4 (wrows l))), flcV 0 0 ⟨#[]⟩])
theorem wordL_code4 {p : Nat} {l : List UInt8} {e : Int} {w : ByteArray} (h : wordL p l = .error (e, w)) : e ≠ 0 := by
  cases l with
  | nil => cases h; decide
  | cons c l =>
    by_cases h1 : letterF c.toNat = true
    · rw [wordL_letter h1] at h
      split at h
      · cases h; decide
      · split at h <;> cases h
    · have h1 : letterF c.toNat = false := by simpa using h1
      by_cases h2 : digitF c.toNat = true
      · rw [wordL_digit h1 h2] at h
        split at h
        · cases h; decide
        · split at h
          · cases h; decide
          · cases h
      · have h2 : digitF c.toNat = false := by simpa using h2
        unfold wordL at h
        simp only at h
        rw [if_neg (by rw [h1]; decide), if_neg (by rw [h2]; decide)] at h
        split at h
        · split at h <;> cases h
        · split at h
          · cases h
          · cases h; decide
set_option maxRecDepth 10000 in
set_option maxHeartbeats 2000000 in
theorem rall_call (s : ByteArray) : ACall Tryz.prog 20 [.c (.d (.str s))] [] (fun o σ => o = rallO s ∧ σ = []) := by
  unfold rallO
  by_cases h : s.size > 65536
  · have : scanF s = .error (3, 0, s0) := by unfold scanF; rw [if_pos h]
    rw [this]
    refine ACall.body tab_ok (ρ := 0) (N := 44) Tryz.func20 rfl rfl rfl rfl rfl ?_
    repeat' first | refine AW.seq ?_ | refine AW.block ?_ | (refine (_root_.id : AW _ _ _ (.region 8 _ true) _ _ → _) ?_; refine AW.draw (id := 8) tab_ok mixed [0, 1, 2] (by kernel_rfl) ?_; conv => whnf) | ((first | refine AW.region tab_ok ?_ | refine AW.cond ?_ | refine AW.skip ?_ | refine AW.ret ?_ | refine AW.exit ?_); conv => whnf) | ((first | refine And.intro (@rfl Val _) ?_ | refine And.intro (by decide) ?_ | refine cs (fun _ => ?_) (fun _ => ?_)) <;> conv => whnf)
    all_goals first | exact ⟨rfl, rfl⟩ | (exfalso; simp_all; omega)
  have hd0 : decide ((s.size : Int) > 65536) = false := by simp; omega
  have S := fun p hp => rskip_call s p hp (by omega)
  have W := fun p hp => rword_call s p hp (by omega)
  have h0 : (restL s 0).length = s.size := by rw [restL_len]; omega
  have hk0 := skipL_le false (restL s 0)
  have S0 := S 0 (Nat.zero_le _)
  refine ACall.body tab_ok (ρ := 0) (N := 44) Tryz.func20 rfl rfl rfl rfl rfl ?_
  repeat' first | ((refine cs (fun g => absurd (hd0.symm.trans g) (by decide)) (fun _ => ?_); conv => whnf)) | refine AW.seq ?_ | refine AW.block ?_ | (refine (_root_.id : AW _ _ _ (.region 8 _ true) _ _ → _) ?_; refine AW.draw (id := 8) tab_ok mixed [0, 1, 2] (by kernel_rfl) ?_; conv => whnf) | ((first | refine AW.region tab_ok ?_ | refine AW.cond ?_ | refine AW.skip ?_ | refine AW.ret ?_ | refine AW.exit ?_); conv => whnf) | (refine (S0).mono ?_; rintro _ _ ⟨rfl, rfl⟩; conv => whnf) | ((first | refine And.intro (@rfl Val _) ?_ | refine And.intro (by decide) ?_ | refine cs (fun _ => ?_) (fun _ => ?_)) <;> conv => whnf)
  refine AW.ghostE 57 4 4 (by decide) rfl ?_
  refine AW.loop (ι := AlI s) (fun x => ⟨44, [(5, .c (.d (.int .i64 x.p))), (4, .c (.own 1 (wrows x.ws).length)), (3, .c (.ptr 0 0)), (0, .c (.d (.str s)))], [.var [.d (.int .i64 0), .d (.int .i64 0), .d (.str ⟨#[]⟩)], .row 57 4 (wrows x.ws)], []⟩)
    (fun x => s.size - x.p) ⟨0 + skipL false (restL s 0), [], s.size + 1, by omega, Nat.zero_le _, by omega, by
      rw [scanL_skip]
      have := restL_add s 0 (skipL false (restL s 0))
      rw [this]
      cases scanL (s.size + 1) (0 + skipL false (restL s 0)) (restL s (0 + skipL false (restL s 0))) <;> rfl, by rw [← restL_add]; exact skipL_again _ _⟩ 2 (fun _ => rfl) (Nat.le_of_ble_eq_true rfl) ⟨⟨rfl, rfl, rfl, rfl, trivial⟩, rfl, rfl, ⟨[], rfl⟩, rfl⟩ (fun x => ?_)
  clear S0
  obtain ⟨p, ws, m, hp, hw, hm, hx, hsk⟩ := x
  obtain ⟨m, rfl⟩ : ∃ q, m = q + 1 := ⟨m - 1, by omega⟩
  dsimp only
  by_cases hlt : p < s.size
  · have hd : decide ((p : Int) < (s.size : Int)) = true := by simp; omega
    have hne : restL s p ≠ [] := by rw [restL_get hlt]; exact List.cons_ne_nil _ _
    have e1 := scanL_step m p (restL s p) hsk hne
    have W := W p hlt
    rcases rwordO_cases s p with ⟨e, w, hn, ho⟩ | ⟨w, hn, ho⟩
    · rw [ho] at W
      have he := wordL_code4 hn
      have he' : (e != 0) = true := by simpa using he
      repeat' first | ((refine cs (fun _ => ?_) (fun g => absurd (hd.symm.trans g) (by decide)); conv => whnf)) | ((refine cs (fun _ => ?_) (fun g => absurd (he'.symm.trans g) (by decide)); conv => whnf)) | refine AW.seq ?_ | refine AW.block ?_ | (refine (_root_.id : AW _ _ _ (.region 8 _ true) _ _ → _) ?_; refine AW.draw (id := 8) tab_ok mixed [0, 1, 2] (by kernel_rfl) ?_; conv => whnf) | ((first | refine AW.region tab_ok ?_ | refine AW.cond ?_ | refine AW.skip ?_ | refine AW.ret ?_ | refine AW.exit ?_); conv => whnf) | (refine (W).mono ?_; rintro _ _ ⟨rfl, rfl⟩; conv => whnf) | ((first | refine And.intro (@rfl Val _) ?_ | refine And.intro (by decide) ?_ | refine cs (fun _ => ?_) (fun _ => ?_)) <;> conv => whnf)
      rw [hn] at e1
      have : scanF s = .error (e, (p : Nat), w) := by
        have : scanL (s.size + 1) 0 s.data.toList = .error (e, (p : Nat), w) := by
          rw [show s.data.toList = restL s 0 from rfl, hx, e1]
        unfold scanF
        rw [if_neg h, this]
      rw [this]
      first | exact ⟨rfl, rfl⟩
    · rw [ho] at W
      obtain ⟨w1, w2, w3⟩ := wordL_ok hn
      rw [restL_len] at w2
      rw [hn] at e1
      simp only at e1
      obtain ⟨m, rfl⟩ : ∃ q, m = q + 1 := ⟨m - 1, by omega⟩
      have e2 := scanL_skip m (p + w.text.size) (restL s (p + w.text.size))
      rw [restL_add] at e2
      rw [restL_add, e2] at e1
      have hkl := skipL_le false (restL s (p + w.text.size))
      rw [restL_len] at hkl
      have S1 := S (p + w.text.size) (by omega)
      have hq := skipL_again (restL s (p + w.text.size)) false
      rw [restL_add] at hq
      generalize skipL false (restL s (p + w.text.size)) = nk at *
      have hb : bnd ((wrows ws).length + 1) 40 := by simp only [bnd, wrows_len]; omega
      have hap : wrows ws ++ [w.cells] = wrows (ws ++ [w]) := by rw [wrows_app]; rfl
      have hal : (wrows ws).length + [w.cells].length = (wrows (ws ++ [w])).length := by rw [← List.length_append, hap]
      have hnx : scanL (s.size + 1) 0 (restL s 0) = match scanL (m + 1) (p + w.text.size + nk) (restL s (p + w.text.size + nk)) with
          | .error x => .error x
          | .ok l => .ok (ws ++ [w] ++ l) := by
        rw [hx, e1]
        cases scanL (m + 1) (p + w.text.size + nk) (restL s (p + w.text.size + nk)) with
        | error x => rfl
        | ok l => simp
      clear S hx e1 e2
      have fin : ∃ x : AlI s, x.p = p + w.text.size + nk ∧ x.ws = ws ++ [w] := ⟨⟨p + w.text.size + nk, ws ++ [w], m + 1, by omega, by simp; omega, by omega, hnx, hq⟩, rfl, rfl⟩
      clear hnx hq
      obtain ⟨⟨fp, fw, fm, f1, f2, f3, f4, f5⟩, rfl, rfl⟩ := fin
      have hlt2 : p < p + w.text.size + nk := by omega
      obtain ⟨wk, wt, wn, wp⟩ := w
      simp only [Wd.cells] at hap hal W
      repeat' first | ((refine cs (fun _ => ?_) (fun g => absurd (hd.symm.trans g) (by decide)); conv => whnf)) | refine AW.seq ?_ | refine AW.block ?_ | (refine (_root_.id : AW _ _ _ (.region 8 _ true) _ _ → _) ?_; refine AW.draw (id := 8) tab_ok mixed [0, 1, 2] (by kernel_rfl) ?_; conv => whnf) | ((first | refine AW.region tab_ok ?_ | refine AW.cond ?_ | refine AW.skip ?_ | refine AW.ret ?_ | refine AW.exit ?_); conv => whnf) | ((first | refine (W).mono ?_ | refine (S1).mono ?_); rintro _ _ ⟨rfl, rfl⟩; conv => whnf) | ((first | refine And.intro (@rfl Val _) ?_ | refine And.intro (by decide) ?_ | refine cs (fun _ => ?_) (fun _ => ?_)) <;> conv => whnf)
      refine ⟨⟨rfl, hb⟩, ?_⟩
      conv => whnf
      repeat' first | refine AW.seq ?_ | refine AW.block ?_ | (refine (_root_.id : AW _ _ _ (.region 8 _ true) _ _ → _) ?_; refine AW.draw (id := 8) tab_ok mixed [0, 1, 2] (by kernel_rfl) ?_; conv => whnf) | ((first | refine AW.region tab_ok ?_ | refine AW.cond ?_ | refine AW.skip ?_ | refine AW.ret ?_ | refine AW.exit ?_); conv => whnf) | (refine (S1).mono ?_; rintro _ _ ⟨rfl, rfl⟩; conv => whnf) | ((first | refine And.intro (@rfl Val _) ?_ | refine And.intro (by decide) ?_ | refine cs (fun _ => ?_) (fun _ => ?_)) <;> conv => whnf)
      simp only [hal, hap]
      first
        | exact ⟨⟨_, _, fm, f1, f2, f3, f4, f5⟩, ⟨⟨rfl, rfl, rfl, rfl, trivial⟩, rfl, rfl, ⟨[_, _], rfl⟩, rfl⟩, by show s.size - (p + wt.size + nk) < s.size - p; simp only at hlt2 f1; omega⟩
       
  · have hd : decide ((p : Int) < (s.size : Int)) = false := by simp; omega
    rw [restL_end hlt, scanL_nil] at hx
    have hF : scanF s = .ok (ws ++ [⟨0, s0, 0, s.size⟩]) := by
      have : scanL (s.size + 1) 0 s.data.toList = .ok ws := by
        rw [show s.data.toList = restL s 0 from rfl, hx]; simp
      unfold scanF
      rw [if_neg h, this]
    rw [hF]
    repeat' first | ((refine cs (fun g => absurd (hd.symm.trans g) (by decide)) (fun _ => ?_); conv => whnf)) | refine AW.seq ?_ | refine AW.block ?_ | (refine (_root_.id : AW _ _ _ (.region 8 _ true) _ _ → _) ?_; refine AW.draw (id := 8) tab_ok mixed [0, 1, 2] (by kernel_rfl) ?_; conv => whnf) | ((first | refine AW.region tab_ok ?_ | refine AW.cond ?_ | refine AW.skip ?_ | refine AW.ret ?_ | refine AW.exit ?_); conv => whnf) | ((first | refine And.intro (@rfl Val _) ?_ | refine And.intro (by decide) ?_ | refine cs (fun _ => ?_) (fun _ => ?_)) <;> conv => whnf)
    refine ⟨⟨rfl, by simp only [bnd, wrows_len, List.length_cons, List.length_nil]; omega⟩, ?_⟩
    conv => whnf
    repeat' first | refine AW.seq ?_ | refine AW.block ?_ | (refine (_root_.id : AW _ _ _ (.region 8 _ true) _ _ → _) ?_; refine AW.draw (id := 8) tab_ok mixed [0, 1, 2] (by kernel_rfl) ?_; conv => whnf) | ((first | refine AW.region tab_ok ?_ | refine AW.cond ?_ | refine AW.skip ?_ | refine AW.ret ?_ | refine AW.exit ?_); conv => whnf) | ((first | refine And.intro (@rfl Val _) ?_ | refine And.intro (by decide) ?_ | refine cs (fun _ => ?_) (fun _ => ?_)) <;> conv => whnf)
    first
      | (simp only [wrows_app]; exact ⟨rfl, rfl⟩)
      | (refine And.intro (by simp) ?_
         conv => whnf
         simp only [wrows_app]
         exact ⟨rfl, rfl⟩)
     
end Go.Proofs.YtmaokphbfjpodaaGreatDoor.E

/- Walks: bare of terms in the document's answer; Bare, both. No conditions. -/
set_option linter.unusedVariables false
set_option linter.unusedSimpArgs false
namespace Go.Proofs.YtmaokphbfjpodaaGreatDoor.E
open Go

end Go.Proofs.YtmaokphbfjpodaaGreatDoor.E

/- Plain laws: parts of a term that is one. No conditions. -/
set_option linter.unusedVariables false
set_option linter.unusedSimpArgs false
namespace Go.Proofs.YtmaokphbfjpodaaGreatDoor.E
open Go

end Go.Proofs.YtmaokphbfjpodaaGreatDoor.E

/- Small facts of terms. No conditions. -/
set_option linter.unusedVariables false
set_option linter.unusedSimpArgs false
namespace Go.Proofs.YtmaokphbfjpodaaGreatDoor.E
open Go

end Go.Proofs.YtmaokphbfjpodaaGreatDoor.E

/- What counts of a term. No conditions. -/
set_option linter.unusedVariables false
set_option linter.unusedSimpArgs false
namespace Go.Proofs.YtmaokphbfjpodaaGreatDoor.E
open Go

/-- A word without its place. -/
structure Tk where
  kind : Int
  text : ByteArray
  num : Int
def Wd.tk (w : Wd) : Tk := ⟨w.kind, w.text, w.num⟩
mutual
/-- What counts of a term, without places. -/
def cl : Tm → Tm
  | .node k name arg num tk tks uk uks label place ks =>
    .node k (if nameK k || decide (k = 15) then name else s0) (if argK k then arg else s0) (if k = 1 then num else 0) (if typeK k then tk else 0) (if typeK k then tks else []) (if toK k then uk else 0) (if toK k then uks else []) (if k = 17 then label else 0) 0 (clL ks)
def clL : List Tm → List Tm
  | [] => []
  | t :: l => cl t :: clL l
end

end Go.Proofs.YtmaokphbfjpodaaGreatDoor.E

/- The scanner on a text with other blanks, and on one that is cut; in plain Lean. No conditions. -/
set_option linter.unusedVariables false
set_option linter.unusedSimpArgs false
namespace Go.Proofs.YtmaokphbfjpodaaGreatDoor.E
open Go

theorem spanL_zero {b : Bool} {s : List UInt8} : spanL b s = 0 ↔ ∀ c a, s = c :: a → (digitF c.toNat || (b && letterF c.toNat)) = false := by
  cases s with
  | nil => simp [spanL]
  | cons c a =>
    rw [spanL]
    constructor
    · intro h c' a' e
      cases e
      cases hq : (digitF c.toNat || (b && letterF c.toNat)) with
      | false => rfl
      | true => rw [if_pos hq] at h; omega
    · intro h
      rw [if_neg (by rw [h c a rfl]; decide)]
/-- What may stand behind a word instead: nothing, the same, or a blank. -/
def Nxt (r s : List UInt8) : Prop := s = [] ∨ (∃ c a b, r = c :: a ∧ s = c :: b) ∨ ∃ c a, s = c :: a ∧ (c = 32 ∨ c = 9 ∨ c = 10 ∨ c = 13)
theorem Nxt.span {r s : List UInt8} (h : Nxt r s) {b : Bool} (h0 : spanL b r = 0) : spanL b s = 0 := by
  rw [spanL_zero] at h0 ⊢
  intro c a e
  rcases h with rfl | ⟨c', a', b', h1, h2⟩ | ⟨c', a', h1, h2⟩
  · cases e
  · rw [h2] at e; cases e; exact h0 c _ h1
  · rw [h1] at e; cases e
    rcases h2 with rfl | rfl | rfl | rfl <;> cases b <;> decide
end Go.Proofs.YtmaokphbfjpodaaGreatDoor.E

/- Words at other places are read as the same, but for places; in plain Lean. No conditions. -/
set_option linter.unusedVariables false
set_option linter.unusedSimpArgs false
set_option linter.unusedSectionVars false
namespace Go.Proofs.YtmaokphbfjpodaaGreatDoor.E
open Go

def SameW (l l' : List Wd) : Prop := l.map Wd.tk = l'.map Wd.tk
theorem SameW.len {l l' : List Wd} (h : SameW l l') : l.length = l'.length := by have := congrArg List.length h; simpa using this
theorem SameW.get {l l' : List Wd} (h : SameW l l') (i : Nat) : (l[i]?).map Wd.tk = (l'[i]?).map Wd.tk := by
  have := congrArg (fun x => x[i]?) h
  simpa only [List.getElem?_map] using this
theorem SameW.tk {l l' : List Wd} (h : SameW l l') (i : Nat) (k : Int) (s : ByteArray) : tkW l i k s = tkW l' i k s := by
  have := h.get i
  unfold tkW
  cases h1 : l[i]? with
  | none => cases h2 : l'[i]? with
    | none => rfl
    | some w' => rw [h1, h2] at this; cases this
  | some w => cases h2 : l'[i]? with
    | none => rw [h1, h2] at this; cases this
    | some w' =>
      rw [h1, h2] at this
      have e : w.tk = w'.tk := by simpa using this
      have e1 : w.kind = w'.kind := congrArg Tk.kind e
      have e2 : w.text = w'.text := congrArg Tk.text e
      simp only [e1, e2]
theorem SameW.op {l l' : List Wd} (h : SameW l l') (ops : List ByteArray) (i : Nat) : isOp l ops i = isOp l' ops i := by
  unfold isOp
  simp only [h.tk]
theorem SameW.text {l l' : List Wd} (h : SameW l l') (i : Nat) : textW l i = textW l' i := by
  have := h.get i
  unfold textW
  cases h1 : l[i]? with
  | none => cases h2 : l'[i]? with
    | none => rfl
    | some w' => rw [h1, h2] at this; cases this
  | some w => cases h2 : l'[i]? with
    | none => rw [h1, h2] at this; cases this
    | some w' =>
      rw [h1, h2] at this
      have e : w.tk = w'.tk := by simpa using this
      exact congrArg Tk.text e
section
variable {l l' : List Wd} (h : SameW l l')
include h
end
end Go.Proofs.YtmaokphbfjpodaaGreatDoor.E

/- A list of words that is cut is taken, or refused at its end, or where the whole one is; in plain Lean. No conditions. -/
set_option linter.unusedVariables false
set_option linter.unusedSimpArgs false
set_option linter.unusedSectionVars false
namespace Go.Proofs.YtmaokphbfjpodaaGreatDoor.E
open Go

/-- At the cut: it ends there, or it is refused there, or for its size. -/
def EndC {α : Type} (K : Nat) (e : Int) (p : PR α) : Prop := p = .bad 40 e s0 ∨ (∃ c a w, p = .bad c a w ∧ c ≠ 40) ∨ ∃ x, p = .ok x K
/-- Ahead of the cut: as at the cut, or as the whole one. -/
def Ct {α : Type} (K : Nat) (e : Int) (b : Nat) (p' p : PR α) : Prop := EndC K e p' ∨ (p' = p ∧ ∀ x j, p' = .ok x j → b ≤ j ∧ j < K)
theorem Ct.le {α : Type} {K : Nat} {e : Int} {b c : Nat} {p' p : PR α} (h : Ct K e b p' p) (hc : c ≤ b) : Ct K e c p' p := by
  rcases h with h | ⟨h, g⟩
  · exact .inl h
  · exact .inr ⟨h, fun x j q => by have := g x j q; omega⟩
section
variable {l : List Wd} {K : Nat} (hK : K < l.length) {e : Int}
include hK
/-! ### Types -/
/-! ### Terms -/
end
end Go.Proofs.YtmaokphbfjpodaaGreatDoor.E

/- Texts with other blanks, and texts that are cut, are scanned as they must; in plain Lean. No conditions. -/
set_option linter.unusedVariables false
set_option linter.unusedSimpArgs false
namespace Go.Proofs.YtmaokphbfjpodaaGreatDoor.E
open Go

end Go.Proofs.YtmaokphbfjpodaaGreatDoor.E
