/- The runes of bytes, by the document's table: the plain law. No program in sight. -/
import Derived.Test.YthninknobjneeaaGreatDoorTexD
set_option linter.unusedSimpArgs false
set_option linter.unusedVariables false
namespace Go.Mir

/-- a rune's bytes, by the document -/
def putR (r : Nat) : List Nat := if r ≤ 127 then [r] else if r ≤ 2047 then [192 + r / 64, 128 + r % 64] else if r ≤ 65535 then [224 + r / 4096, 128 + r / 64 % 64, 128 + r % 64] else [240 + r / 262144, 128 + r / 4096 % 64, 128 + r / 64 % 64, 128 + r % 64]

/-- the number that the first bytes give -/
def acc1 (c : Nat) : Nat := c
def acc2 (c d : Nat) : Nat := 64 * (c % 32) + d % 64
def acc3 (c d e : Nat) : Nat := 64 * (64 * (c % 16) + d % 64) + e % 64
def acc4 (c d e f : Nat) : Nat := 64 * (64 * (64 * (c % 8) + d % 64) + e % 64) + f % 64

theorem putR_len {r : Nat} : (putR r).length = sizeR r := by
  have e : sizeR r = if r < 128 then 1 else if r < 2048 then 2 else if r < 65536 then 3 else 4 := rfl
  unfold putR
  rw [e]
  repeat' split
  all_goals first | rfl | (exfalso; omega)

theorem may_of {r : Nat} (h : r < 55296) : mayR r = true := by simp [mayR]; omega

theorem getR_iff {c k x : Nat} {t : List Nat} : getR (c :: t) = some (x, k + 1) ↔ ∃ r0, headR c = some (r0, k) ∧ contR k t r0 = some x ∧ mayR x = true ∧ sizeR x = k + 1 := by
  constructor
  · intro h
    simp only [getR] at h
    obtain ⟨⟨r0, m⟩, h1, h2⟩ := Option.bind_eq_some_iff.1 h
    obtain ⟨r, h3, h4⟩ := Option.bind_eq_some_iff.1 h2
    split at h4
    · rename_i hq
      simp only [Option.some.injEq, Prod.mk.injEq] at h4
      obtain ⟨rfl, e⟩ := h4
      obtain rfl : m = k := by omega
      exact ⟨r0, h1, h3, hq.1, hq.2⟩
    · cases h4
  · rintro ⟨r0, h1, h2, h3, h4⟩
    simp only [getR, h1, Option.bind_some, h2]
    rw [if_pos ⟨h3, h4⟩]

theorem headR_0 {c r0 : Nat} : headR c = some (r0, 0) ↔ c < 128 ∧ r0 = c := by
  unfold headR
  repeat' split
  all_goals simp
  all_goals omega
theorem headR_1 {c r0 : Nat} : headR c = some (r0, 1) ↔ (194 ≤ c ∧ c < 224) ∧ r0 = c % 32 := by
  unfold headR
  repeat' split
  all_goals simp
  all_goals omega
theorem headR_2 {c r0 : Nat} : headR c = some (r0, 2) ↔ (224 ≤ c ∧ c < 240) ∧ r0 = c % 16 := by
  unfold headR
  repeat' split
  all_goals simp
  all_goals omega
theorem headR_3 {c r0 : Nat} : headR c = some (r0, 3) ↔ (240 ≤ c ∧ c < 245) ∧ r0 = c % 8 := by
  unfold headR
  repeat' split
  all_goals simp
  all_goals omega
theorem size_1 {r : Nat} : sizeR r = 1 ↔ r < 128 := by unfold sizeR; repeat' split
                                                       all_goals omega
theorem size_2 {r : Nat} : sizeR r = 2 ↔ 128 ≤ r ∧ r < 2048 := by unfold sizeR; repeat' split
                                                                  all_goals omega
theorem size_3 {r : Nat} : sizeR r = 3 ↔ 2048 ≤ r ∧ r < 65536 := by unfold sizeR; repeat' split
                                                                    all_goals omega
theorem size_4 {r : Nat} : sizeR r = 4 ↔ 65536 ≤ r := by unfold sizeR; repeat' split
                                                         all_goals omega
theorem put_1 {r c : Nat} : putR r = [c] ↔ r < 128 ∧ r = c := by
  unfold putR; repeat' split
  all_goals simp
  all_goals omega
theorem put_2 {r c d : Nat} : putR r = [c, d] ↔ (128 ≤ r ∧ r < 2048) ∧ 192 + r / 64 = c ∧ 128 + r % 64 = d := by
  unfold putR; repeat' split
  all_goals simp
  all_goals omega
theorem put_3 {r c d e : Nat} : putR r = [c, d, e] ↔ (2048 ≤ r ∧ r < 65536) ∧ 224 + r / 4096 = c ∧ 128 + r / 64 % 64 = d ∧ 128 + r % 64 = e := by
  unfold putR; repeat' split
  all_goals simp
  all_goals omega
theorem put_4 {r c d e f : Nat} : putR r = [c, d, e, f] ↔ 65536 ≤ r ∧ 240 + r / 262144 = c ∧ 128 + r / 4096 % 64 = d ∧ 128 + r / 64 % 64 = e ∧ 128 + r % 64 = f := by
  unfold putR; repeat' split
  all_goals simp
  all_goals omega
theorem may_iff {r : Nat} : mayR r = true ↔ r ≤ 1114111 ∧ (r < 55296 ∨ 57343 < r) := by simp [mayR]

theorem step1 {c : Nat} {t : List Nat} : (mayR (acc1 c) = true ∧ putR (acc1 c) = [c]) ↔ getR (c :: t) = some (acc1 c, 1) := by
  rw [getR_iff]
  simp only [headR_0, put_1, size_1, may_iff, acc1, contR, Nat.reduceAdd, Nat.zero_add, Option.some.injEq]
  constructor
  · rintro ⟨h1, h2⟩; exact ⟨c, by omega, rfl, h1, by omega⟩
  · rintro ⟨r0, h1, h2, h3, h4⟩
    exact ⟨h3, by first | exact ⟨h4, rfl⟩ | exact ⟨h4, trivial⟩ | exact h4⟩

theorem step2 {c d : Nat} {t : List Nat} (hc : c < 256) (hd : d < 256) : (mayR (acc2 c d) = true ∧ putR (acc2 c d) = [c, d]) ↔ getR (c :: d :: t) = some (acc2 c d, 2) := by
  rw [getR_iff]
  simp only [headR_1, put_2, size_2, may_iff, acc2, contR, Nat.reduceAdd, Nat.zero_add]
  constructor
  · rintro ⟨h1, h2⟩
    refine ⟨c % 32, by omega, ?_, h1, by omega⟩
    rw [if_pos (by omega)]; congr 1; omega
  · rintro ⟨r0, h1, h2, h3, h4⟩
    split at h2
    · refine ⟨h3, by omega⟩
    · cases h2

theorem step3 {c d e : Nat} {t : List Nat} (hc : c < 256) (hd : d < 256) (he : e < 256) : (mayR (acc3 c d e) = true ∧ putR (acc3 c d e) = [c, d, e]) ↔ getR (c :: d :: e :: t) = some (acc3 c d e, 3) := by
  rw [getR_iff]
  simp only [headR_2, put_3, size_3, may_iff, acc3, contR, Nat.reduceAdd, Nat.zero_add]
  constructor
  · rintro ⟨h1, h2⟩
    refine ⟨c % 16, by omega, ?_, h1, by omega⟩
    rw [if_pos (by omega), if_pos (by omega)]; congr 1; omega
  · rintro ⟨r0, h1, h2, h3, h4⟩
    split at h2
    · split at h2
      · refine ⟨h3, by omega⟩
      · cases h2
    · cases h2

theorem step4 {c d e f : Nat} {t : List Nat} (hc : c < 256) (hd : d < 256) (he : e < 256) (hf : f < 256) : (mayR (acc4 c d e f) = true ∧ putR (acc4 c d e f) = [c, d, e, f]) ↔ getR (c :: d :: e :: f :: t) = some (acc4 c d e f, 4) := by
  rw [getR_iff]
  simp only [headR_3, put_4, size_4, may_iff, acc4, contR, Nat.reduceAdd, Nat.zero_add]
  constructor
  · rintro ⟨h1, h2⟩
    refine ⟨c % 8, by omega, ?_, h1, by omega⟩
    rw [if_pos (by omega), if_pos (by omega), if_pos (by omega)]; congr 1; omega
  · rintro ⟨r0, h1, h2, h3, h4⟩
    split at h2
    · split at h2
      · split at h2
        · refine ⟨h3, by omega⟩
        · cases h2
      · cases h2
    · cases h2

/-- a rune has one to four bytes, and they are there -/
theorem getR_some {s : List Nat} {r m : Nat} (h : getR s = some (r, m)) : 1 ≤ m ∧ m ≤ 4 ∧ m ≤ s.length := by
  cases s with
  | nil => cases h
  | cons c t =>
    simp only [getR] at h
    obtain ⟨⟨r0, k⟩, h1, h2⟩ := Option.bind_eq_some_iff.1 h
    obtain ⟨x, h3, h4⟩ := Option.bind_eq_some_iff.1 h2
    split at h4
    · simp only [Option.some.injEq, Prod.mk.injEq] at h4
      have hk : k ≤ 3 := by
        unfold headR at h1
        repeat' split at h1
        all_goals first | (cases h1; omega) | cases h1
      have hl : k ≤ t.length := by
        rcases Nat.lt_or_ge t.length k with h5 | h5
        · have := contR_short k t r0 h5
          rw [this] at h3; cases h3
        · exact h5
      simp only [List.length_cons]
      omega
    · cases h4
end Go.Mir
