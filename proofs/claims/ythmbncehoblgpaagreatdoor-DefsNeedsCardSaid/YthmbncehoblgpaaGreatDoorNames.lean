/- Walks: letters, digits, key words. No conditions. -/
import Derived.Test.YthmbncehoblgpaaGreatDoorTy
set_option linter.unusedVariables false
set_option linter.unusedSimpArgs false
namespace Go.Proofs.YthmbncehoblgpaaGreatDoor.E
open Go

def letterF (c : Int) : Bool := (decide (65 ≤ c) && decide (c ≤ 90)) || (decide (97 ≤ c) && decide (c ≤ 122)) || decide (c = 95)
def digitF (c : Int) : Bool := decide (48 ≤ c) && decide (c ≤ 57)

theorem outb {x y : Bool} (h : x = y) : Out.ret (oneOf [.c (.d (.bool x))]) = Out.ret (.c (.d (.bool y))) := by rw [h]; rfl

set_option maxRecDepth 10000 in
theorem digit_call (c : Int) : ACall Tryz.prog 49 [.c (.d (.int .u8 c))] [] (fun o σ => o = .ret (.c (.d (.bool (digitF c)))) ∧ σ = []) := by
  refine ACall.body tab_ok (ρ := 0) (N := 9) Tryz.func49 rfl rfl rfl rfl rfl ?_
  repeat' first | refine AW.seq ?_ | refine AW.block ?_ | ((first | refine AW.region tab_ok ?_ | refine AW.cond ?_ | refine AW.skip ?_ | refine AW.ret ?_ | refine AW.exit ?_); conv => whnf) | ((first | refine And.intro (@rfl Val _) ?_ | refine And.intro (by decide) ?_ | refine cs (fun _ => ?_) (fun _ => ?_)) <;> conv => whnf)
  all_goals
    refine ⟨outb ?_, rfl⟩
    rw [Bool.eq_iff_iff]
    simp at *
    simp [digitF]
    omega
set_option maxRecDepth 10000 in
theorem rdigit_call (c : Int) : ACall Tryz.prog 62 [.c (.d (.int .u8 c))] [] (fun o σ => o = .ret (.c (.d (.bool (digitF c)))) ∧ σ = []) := by
  refine ACall.body tab_ok (ρ := 0) (N := 9) Tryz.func62 rfl rfl rfl rfl rfl ?_
  repeat' first | refine AW.seq ?_ | refine AW.block ?_ | ((first | refine AW.region tab_ok ?_ | refine AW.cond ?_ | refine AW.skip ?_ | refine AW.ret ?_ | refine AW.exit ?_); conv => whnf) | ((first | refine And.intro (@rfl Val _) ?_ | refine And.intro (by decide) ?_ | refine cs (fun _ => ?_) (fun _ => ?_)) <;> conv => whnf)
  all_goals
    refine ⟨outb ?_, rfl⟩
    rw [Bool.eq_iff_iff]
    simp at *
    simp [digitF]
    omega
set_option maxRecDepth 10000 in
theorem letter_call (c : Int) : ACall Tryz.prog 51 [.c (.d (.int .u8 c))] [] (fun o σ => o = .ret (.c (.d (.bool (letterF c)))) ∧ σ = []) := by
  refine ACall.body tab_ok (ρ := 0) (N := 21) Tryz.func51 rfl rfl rfl rfl rfl ?_
  repeat' first | refine AW.seq ?_ | refine AW.block ?_ | ((first | refine AW.region tab_ok ?_ | refine AW.cond ?_ | refine AW.skip ?_ | refine AW.ret ?_ | refine AW.exit ?_); conv => whnf) | ((first | refine And.intro (@rfl Val _) ?_ | refine And.intro (by decide) ?_ | refine cs (fun _ => ?_) (fun _ => ?_)) <;> conv => whnf)
  all_goals
    refine ⟨outb ?_, rfl⟩
    rw [Bool.eq_iff_iff]
    simp at *
    simp [letterF]
    omega
set_option maxRecDepth 10000 in
theorem rletter_call (c : Int) : ACall Tryz.prog 61 [.c (.d (.int .u8 c))] [] (fun o σ => o = .ret (.c (.d (.bool (letterF c)))) ∧ σ = []) := by
  refine ACall.body tab_ok (ρ := 0) (N := 21) Tryz.func61 rfl rfl rfl rfl rfl ?_
  repeat' first | refine AW.seq ?_ | refine AW.block ?_ | ((first | refine AW.region tab_ok ?_ | refine AW.cond ?_ | refine AW.skip ?_ | refine AW.ret ?_ | refine AW.exit ?_); conv => whnf) | ((first | refine And.intro (@rfl Val _) ?_ | refine And.intro (by decide) ?_ | refine cs (fun _ => ?_) (fun _ => ?_)) <;> conv => whnf)
  all_goals
    refine ⟨outb ?_, rfl⟩
    rw [Bool.eq_iff_iff]
    simp at *
    simp [letterF]
    omega
def keysF : List ByteArray := [⟨#[108, 101, 116]⟩, ⟨#[105, 110]⟩, ⟨#[105, 102]⟩, ⟨#[116, 104, 101, 110]⟩, ⟨#[101, 108, 115, 101]⟩, ⟨#[114, 101, 99]⟩, ⟨#[99, 97, 115, 101]⟩, ⟨#[111, 102]⟩, ⟨#[102, 115, 116]⟩, ⟨#[115, 110, 100]⟩, ⟨#[105, 110, 108]⟩, ⟨#[105, 110, 114]⟩, ⟨#[116, 114, 117, 101]⟩, ⟨#[102, 97, 108, 115, 101]⟩, ⟨#[105, 110, 116]⟩, ⟨#[98, 111, 111, 108]⟩]
def keyF (s : ByteArray) : Bool := keysF.any (fun k => decide (s = k))
set_option maxRecDepth 10000 in
theorem key_call (s : ByteArray) : ACall Tryz.prog 50 [.c (.d (.str s))] [] (fun o σ => o = .ret (.c (.d (.bool (keyF s)))) ∧ σ = []) := by
  refine ACall.body tab_ok (ρ := 0) (N := 22) Tryz.func50 rfl rfl rfl rfl rfl ?_
  repeat' first | refine AW.seq ?_ | refine AW.block ?_ | ((first | refine AW.region tab_ok ?_ | refine AW.cond ?_ | refine AW.skip ?_ | refine AW.ret ?_ | refine AW.exit ?_); conv => whnf) | ((first | refine And.intro (@rfl Val _) ?_ | refine And.intro (by decide) ?_ | refine cs (fun _ => ?_) (fun _ => ?_)) <;> conv => whnf)
  all_goals
    refine ⟨outb ?_, rfl⟩
    simp at *
    simp [keyF, keysF, *]
set_option maxRecDepth 10000 in
theorem rkey_call (s : ByteArray) : ACall Tryz.prog 60 [.c (.d (.str s))] [] (fun o σ => o = .ret (.c (.d (.bool (keyF s)))) ∧ σ = []) := by
  refine ACall.body tab_ok (ρ := 0) (N := 21) Tryz.func60 rfl rfl rfl rfl rfl ?_
  repeat' first | refine AW.seq ?_ | refine AW.block ?_ | ((first | refine AW.region tab_ok ?_ | refine AW.cond ?_ | refine AW.skip ?_ | refine AW.ret ?_ | refine AW.exit ?_); conv => whnf) | ((first | refine And.intro (@rfl Val _) ?_ | refine And.intro (by decide) ?_ | refine cs (fun _ => ?_) (fun _ => ?_)) <;> conv => whnf)
  all_goals
    refine ⟨outb ?_, rfl⟩
    simp at *
    simp [keyF, keysF, *]

/-! ### names -/
def nbF (c : Int) : Bool := letterF c || digitF c
def bytesF (s : ByteArray) : Nat → Bool
  | 0 => true
  | i + 1 => bytesF s i && nbF (byteAt s i)
def nameF (s : ByteArray) : Bool := !decide (s = ⟨#[]⟩) && decide (s.size ≤ 64) && !keyF s && !digitF (byteAt s 0) && bytesF s s.size
theorem pos_size {s : ByteArray} (h : ¬ s = ⟨#[]⟩) : 0 < s.size := by
  rcases Nat.eq_zero_or_pos s.size with e | e
  · exfalso
    apply h
    obtain ⟨d⟩ := s
    have : d.size = 0 := e
    have : d = #[] := Array.eq_empty_of_size_eq_zero this
    rw [this]
  · exact e
theorem bytesF_false (s : ByteArray) : ∀ (n i : Nat), i < n → nbF (byteAt s i) = false → bytesF s n = false
  | n + 1, i, hi, h => by
    simp only [bytesF]
    by_cases e : i = n
    · subst e; rw [h]; simp
    · rw [bytesF_false s n i (by omega) h]; rfl
structure ByteI (s : ByteArray) where
  i : Nat
  hi : i ≤ s.size
  h : bytesF s i = true
theorem byte_row {s : ByteArray} {i : Nat} {row : List DV} (h : (s.data.toList.map fun b => [DV.int .u8 b.toNat])[i]? = some row) : i < s.size ∧ row = [.int .u8 (byteAt s i)] := by
  rw [List.getElem?_map] at h
  cases hb : s.data.toList[i]? with
  | none => rw [hb] at h; cases h
  | some b =>
    rw [hb] at h
    cases h
    have hl := (List.getElem?_eq_some_iff.1 hb).1
    refine ⟨by simpa using hl, ?_⟩
    simp only [byteAt, Int.toNat_natCast, hb]
    rfl
theorem bytes_len (s : ByteArray) : (s.data.toList.map fun b => [DV.int .u8 b.toNat]).length = s.size := by
  rw [List.length_map, Array.length_toList]; rfl

set_option maxRecDepth 10000 in
theorem name_call (s : ByteArray) : ACall Tryz.prog 25 [.c (.d (.str s))] [] (fun o σ => o = .ret (.c (.d (.bool (nameF s)))) ∧ σ = []) := by
  refine ACall.body tab_ok (ρ := 0) (N := 37) Tryz.func25 rfl rfl rfl rfl rfl ?_
  repeat' first | refine AW.seq ?_ | refine AW.block ?_ | ((first | refine AW.region tab_ok ?_ | refine AW.cond ?_ | refine AW.skip ?_ | refine AW.ret ?_ | refine AW.exit ?_); conv => whnf) | ((first | refine (digit_call _).mono ?_ | refine (key_call _).mono ?_ | refine (letter_call _).mono ?_); rintro _ _ ⟨rfl, rfl⟩; conv => whnf) | ((first | refine And.intro (@rfl Val _) ?_ | refine And.intro (by decide) ?_ | refine cs (fun _ => ?_) (fun _ => ?_)) <;> conv => whnf)
  · rename_i h
    refine ⟨outb ?_, rfl⟩
    simp at h
    simp [nameF, h]
  · rename_i h0 h
    refine ⟨outb ?_, rfl⟩
    simp at h
    have : ¬ s.size ≤ 64 := by omega
    simp [nameF, this]
  · rename_i h0 h
    simp at h0 h
    have hs := pos_size h0
    have h64 : s.size ≤ 64 := by omega
    refine ⟨⟨by omega, by omega⟩, ?_⟩
    conv => whnf
    repeat' first | refine AW.seq ?_ | refine AW.block ?_ | ((first | refine AW.region tab_ok ?_ | refine AW.cond ?_ | refine AW.skip ?_ | refine AW.ret ?_ | refine AW.exit ?_); conv => whnf) | ((first | refine (digit_call _).mono ?_ | refine (key_call _).mono ?_ | refine (letter_call _).mono ?_); rintro _ _ ⟨rfl, rfl⟩; conv => whnf) | ((first | refine And.intro (@rfl Val _) ?_ | refine And.intro (by decide) ?_ | refine cs (fun _ => ?_) (fun _ => ?_)) <;> conv => whnf)
    · rename_i h1
      refine ⟨outb ?_, rfl⟩
      simp at h1
      simp [nameF, h1]
    · rename_i h1 h2
      refine ⟨outb ?_, rfl⟩
      simp at h1 h2
      simp [nameF, h1, h2]
    · rename_i h1 h2
      simp at h1 h2
      refine AW.loop (ι := ByteI s) (fun x => ⟨37, [(24, .c (.d (.int .i64 x.i))), (23, .c (.d (.int .i64 (s.data.toList.map fun b => [DV.int .u8 b.toNat]).length))), (22, .c (.d (.sl 0 1 (s.data.toList.map fun b => [DV.int .u8 b.toNat]))))], [], []⟩)
        (fun x => s.size - x.i) ⟨0, Nat.zero_le _, rfl⟩ 0 (fun _ => rfl) (Nat.le_of_ble_eq_true rfl) ⟨⟨rfl, rfl, rfl, trivial⟩, rfl, rfl, ⟨[], rfl⟩, rfl⟩ (fun x => ?_)
      obtain ⟨i, hi, hj⟩ := x
      repeat' first | refine AW.seq ?_ | refine AW.block ?_ | ((first | refine AW.region tab_ok ?_ | refine AW.cond ?_ | refine AW.skip ?_ | refine AW.ret ?_ | refine AW.exit ?_); conv => whnf) | ((first | refine And.intro (@rfl Val _) ?_ | refine And.intro (by decide) ?_ | refine cs (fun _ => ?_) (fun _ => ?_)) <;> conv => whnf)
      · rename_i h3
        simp only [bytes_len] at h3 ⊢
        have := of_decide_eq_true h3
        refine ⟨by omega, fun row hrow => ?_⟩
        obtain ⟨hlt, rfl⟩ := byte_row (i := i) (by simpa using hrow)
        conv => whnf
        repeat' first | refine AW.seq ?_ | refine AW.block ?_ | ((first | refine AW.region tab_ok ?_ | refine AW.cond ?_ | refine AW.skip ?_ | refine AW.ret ?_ | refine AW.exit ?_); conv => whnf) | ((first | refine (digit_call _).mono ?_ | refine (letter_call _).mono ?_); rintro _ _ ⟨rfl, rfl⟩; conv => whnf) | ((first | refine And.intro (@rfl Val _) ?_ | refine And.intro (by decide) ?_ | refine cs (fun _ => ?_) (fun _ => ?_)) <;> conv => whnf)
        · rename_i h4 h5
          simp at h4 h5
          refine ⟨outb ?_, rfl⟩
          have := bytesF_false s s.size i hlt (by simp [nbF, h4, h5])
          simp [nameF, this]
        · rename_i h4 h5
          simp at h4 h5
          rw [wrap64 (x := (i : Int) + 1) (by omega) (by omega)]
          exact ⟨⟨i + 1, hlt, by simp [bytesF, hj, nbF, h5]⟩, ⟨⟨rfl, rfl, rfl, trivial⟩, rfl, rfl, ⟨[], rfl⟩, rfl⟩, show s.size - (i + 1) < s.size - i by omega⟩
        · rename_i h4
          simp at h4
          rw [wrap64 (x := (i : Int) + 1) (by omega) (by omega)]
          exact ⟨⟨i + 1, hlt, by simp [bytesF, hj, nbF, h4]⟩, ⟨⟨rfl, rfl, rfl, trivial⟩, rfl, rfl, ⟨[], rfl⟩, rfl⟩, show s.size - (i + 1) < s.size - i by omega⟩
      · rename_i h3
        simp only [bytes_len] at h3
        have := of_decide_eq_false h3
        obtain rfl : i = s.size := by omega
        refine ⟨outb ?_, rfl⟩
        simp [nameF, h0, h64, h1, h2, hj]
theorem first_letter {s : ByteArray} (h : 0 < s.size) (h1 : bytesF s s.size = true) : letterF (byteAt s 0) = !digitF (byteAt s 0) := by
  have h2 : nbF (byteAt s 0) = true := by
    cases hc : nbF (byteAt s 0) with
    | true => rfl
    | false => rw [bytesF_false s s.size 0 h hc] at h1; cases h1
  simp only [nbF] at h2
  cases hl : letterF (byteAt s 0) with
  | false => rw [hl] at h2; simp at h2; simp [h2]
  | true =>
    cases hd : digitF (byteAt s 0) with
    | false => rfl
    | true =>
      simp [letterF, digitF] at hl hd
      omega
set_option maxRecDepth 10000 in
theorem rname_call (s : ByteArray) : ACall Tryz.prog 34 [.c (.d (.str s))] [] (fun o σ => o = .ret (.c (.d (.bool (nameF s)))) ∧ σ = []) := by
  refine ACall.body tab_ok (ρ := 0) (N := 39) Tryz.func34 rfl rfl rfl rfl rfl ?_
  repeat' first | refine AW.seq ?_ | refine AW.block ?_ | ((first | refine AW.region tab_ok ?_ | refine AW.cond ?_ | refine AW.skip ?_ | refine AW.ret ?_ | refine AW.exit ?_); conv => whnf) | ((first | refine (rdigit_call _).mono ?_ | refine (rkey_call _).mono ?_ | refine (rletter_call _).mono ?_); rintro _ _ ⟨rfl, rfl⟩; conv => whnf) | ((first | refine And.intro (@rfl Val _) ?_ | refine And.intro (by decide) ?_ | refine cs (fun _ => ?_) (fun _ => ?_)) <;> conv => whnf)
  · rename_i h
    refine ⟨outb ?_, rfl⟩
    simp at h
    simp [nameF, h]
  · rename_i h0 h
    refine ⟨outb ?_, rfl⟩
    simp at h
    have : ¬ s.size ≤ 64 := by omega
    simp [nameF, this]
  · rename_i h0 h h1
    refine ⟨outb ?_, rfl⟩
    simp at h1
    simp [nameF, h1]
  · rename_i h0 h h1
    simp at h0 h h1
    have hs := pos_size h0
    have h64 : s.size ≤ 64 := by omega
    refine ⟨⟨by omega, by omega⟩, ?_⟩
    conv => whnf
    repeat' first | refine AW.seq ?_ | refine AW.block ?_ | ((first | refine AW.region tab_ok ?_ | refine AW.cond ?_ | refine AW.skip ?_ | refine AW.ret ?_ | refine AW.exit ?_); conv => whnf) | ((first | refine (rdigit_call _).mono ?_ | refine (rkey_call _).mono ?_ | refine (rletter_call _).mono ?_); rintro _ _ ⟨rfl, rfl⟩; conv => whnf) | ((first | refine And.intro (@rfl Val _) ?_ | refine And.intro (by decide) ?_ | refine cs (fun _ => ?_) (fun _ => ?_)) <;> conv => whnf)
    · rename_i h2
      refine ⟨outb ?_, rfl⟩
      simp at h2
      cases hb : bytesF s s.size with
      | false => simp [nameF, hb]
      | true =>
        have := first_letter hs hb
        rw [h2] at this
        simp at this
        simp [nameF, this]
    · rename_i h2
      simp at h2
      refine AW.loop (ι := ByteI s) (fun x => ⟨39, [(3, .c (.d (.int .i64 x.i))), (0, .c (.d (.str s)))], [], []⟩)
        (fun x => s.size - x.i) ⟨0, Nat.zero_le _, rfl⟩ 0 (fun _ => rfl) (Nat.le_of_ble_eq_true rfl) ⟨⟨rfl, rfl, trivial⟩, rfl, rfl, ⟨[], rfl⟩, rfl⟩ (fun x => ?_)
      obtain ⟨i, hi, hj⟩ := x
      repeat' first | refine AW.seq ?_ | refine AW.block ?_ | ((first | refine AW.region tab_ok ?_ | refine AW.cond ?_ | refine AW.skip ?_ | refine AW.ret ?_ | refine AW.exit ?_); conv => whnf) | ((first | refine And.intro (@rfl Val _) ?_ | refine And.intro (by decide) ?_ | refine cs (fun _ => ?_) (fun _ => ?_)) <;> conv => whnf)
      · rename_i h3
        have := of_decide_eq_true h3
        have hlt : i < s.size := by simpa using this
        refine ⟨⟨by simp, by simpa using hlt⟩, ?_⟩
        conv => whnf
        repeat' first | refine AW.seq ?_ | refine AW.block ?_ | ((first | refine AW.region tab_ok ?_ | refine AW.cond ?_ | refine AW.skip ?_ | refine AW.ret ?_ | refine AW.exit ?_); conv => whnf) | (refine (rletter_call _).mono ?_; rintro _ _ ⟨rfl, rfl⟩; conv => whnf) | ((first | refine And.intro (@rfl Val _) ?_ | refine And.intro (by decide) ?_ | refine cs (fun _ => ?_) (fun _ => ?_)) <;> conv => whnf)
        · rename_i h4
          simp at h4
          refine ⟨⟨by simp, by simpa using hlt⟩, ?_⟩
          conv => whnf
          repeat' first | refine AW.seq ?_ | refine AW.block ?_ | ((first | refine AW.region tab_ok ?_ | refine AW.cond ?_ | refine AW.skip ?_ | refine AW.ret ?_ | refine AW.exit ?_); conv => whnf) | (refine (rdigit_call _).mono ?_; rintro _ _ ⟨rfl, rfl⟩; conv => whnf) | ((first | refine And.intro (@rfl Val _) ?_ | refine And.intro (by decide) ?_ | refine cs (fun _ => ?_) (fun _ => ?_)) <;> conv => whnf)
          · rename_i h5
            simp at h5
            refine ⟨outb ?_, rfl⟩
            have := bytesF_false s s.size i hlt (by simp [nbF, h4, h5])
            simp [nameF, this]
          · rename_i h5
            simp at h5
            rw [wrap64 (x := (i : Int) + 1) (by omega) (by omega)]
            exact ⟨⟨i + 1, hlt, by simp [bytesF, hj, nbF, h5]⟩, ⟨⟨rfl, rfl, trivial⟩, rfl, rfl, ⟨[], rfl⟩, rfl⟩, show s.size - (i + 1) < s.size - i by omega⟩
        · rename_i h4
          simp at h4
          rw [wrap64 (x := (i : Int) + 1) (by omega) (by omega)]
          exact ⟨⟨i + 1, hlt, by simp [bytesF, hj, nbF, h4]⟩, ⟨⟨rfl, rfl, trivial⟩, rfl, rfl, ⟨[], rfl⟩, rfl⟩, show s.size - (i + 1) < s.size - i by omega⟩
      · rename_i h3
        have := of_decide_eq_false h3
        obtain rfl : i = s.size := by simp at this; omega
        refine ⟨outb ?_, rfl⟩
        have := first_letter hs hj
        rw [h2] at this
        simp at this
        simp [nameF, h0, h64, h1, this, hj]
end Go.Proofs.YthmbncehoblgpaaGreatDoor.E
