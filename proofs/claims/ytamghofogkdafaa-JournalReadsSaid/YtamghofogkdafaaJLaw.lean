/- What the journal's statement needs of lists of bytes: one small disk, and Open against Read. No condition; no program here. -/
import Derived.Test.YtamghofogkdafaaJour5
import Derived.Test.YtamghofogkdafaaMark
set_option linter.all false
namespace Go.Proofs.Ytamghofogkdafaa
open Go.Bz Go.Proofs

theorem foldN_zeros (m : Nat) : foldN (List.replicate m 0) 0 = 0 := by
  induction m with
  | zero => rfl
  | succ m ih => rw [List.replicate_succ]; exact ih
theorem numOf_zeros (m : Nat) : numOf (List.replicate m 0) = 0 := by
  unfold numOf; rw [List.take_replicate]; exact foldN_zeros _
theorem numOf_be1 (l : List UInt8) : numOf (be64 1 ++ l) = 1 := by
  unfold numOf
  rw [List.take_append_of_le_length (Nat.le_of_eq (be64_n 1).symm), List.take_of_length_le (Nat.le_of_eq (be64_n 1))]
  kernel_rfl
theorem begun_zeros (m : Nat) : begunOf (List.replicate m 0) = 0 := by
  unfold begunOf
  rw [if_neg]
  rw [List.drop_replicate, numOf_zeros]
  intro h; exact absurd h.1 (by decide)
theorem head_drop (l : List UInt8) : ∃ r, (headOf 1 ++ l).drop 1 = be64 1 ++ r := by
  unfold headOf padTo; simp only [List.cons_append, List.append_assoc, List.drop_succ_cons, List.drop_zero]; exact ⟨_, rfl⟩
theorem begun_head (l : List UInt8) : begunOf (headOf 1 ++ l) = 1 := by
  obtain ⟨r, hr⟩ := head_drop l
  unfold begunOf
  rw [hr, numOf_be1, if_pos]
  refine ⟨by decide, ?_⟩
  rw [List.take_append_of_le_length (by rw [headOf_length]; exact Nat.le_refl _), List.take_of_length_le (by rw [headOf_length]; exact Nat.le_refl _)]
theorem rec_len : (recOf 1 0 [97]).length = 64 := by rw [recOf_length]; rfl
theorem rec_drop (l : List UInt8) : ∃ r, (recOf 1 0 [97] ++ l).drop 49 = be64 1 ++ (97 :: r) := by
  unfold recOf padTo
  have e : (74 :: (be64 1 ++ (be64 0 ++ (sha (textOf 1 0 [97]) ++ (be64 (UInt64.ofNat [(97 : UInt8)].length) ++ [97]))))) = (74 :: (be64 1 ++ (be64 0 ++ sha (textOf 1 0 [97])))) ++ (be64 1 ++ [97]) := by
    simp only [List.cons_append, List.append_assoc]; rfl
  rw [e]
  generalize List.replicate _ (0 : UInt8) = z
  have hl : (74 :: (be64 1 ++ (be64 0 ++ sha (textOf 1 0 [97])))).length = 49 := by simp [be64_n, sha_length]
  rw [List.append_assoc, List.append_assoc, List.drop_append_of_le_length (by rw [hl]; exact Nat.le_refl _), List.drop_of_length_le (by rw [hl]; exact Nat.le_refl _)]
  exact ⟨z ++ l, by simp⟩
theorem next_rec (m : Nat) : nextOf 1 (UInt64.ofNat 0) (recOf 1 0 [97] ++ List.replicate m 0) = some ([97], 64) := by
  obtain ⟨r, hr⟩ := rec_drop (List.replicate m 0)
  have e57 : ((recOf 1 0 [97] ++ List.replicate m 0).drop 57) = 97 :: r := by
    have : ((recOf 1 0 [97] ++ List.replicate m 0).drop 49).drop 8 = 97 :: r := by
      rw [hr, List.drop_append_of_le_length (Nat.le_of_eq (be64_n 1).symm), List.drop_of_length_le (Nat.le_of_eq (be64_n 1))]; rfl
    rw [List.drop_drop] at this
    exact this
  have e1 : (numOf (be64 1 ++ 97 :: r)).toNat = 1 := by rw [numOf_be1]; rfl
  have e2 : List.take 1 (97 :: r) = [(97 : UInt8)] := rfl
  have e3 : (UInt64.ofNat 0 : UInt64) = 0 := rfl
  unfold nextOf
  rw [hr, e57, e1, e2, e3, rec_len, List.length_append, rec_len, List.length_replicate]
  rw [if_neg (by omega), if_neg (by omega), if_pos]
  refine ⟨by omega, ?_⟩
  rw [List.take_append_of_le_length (by rw [rec_len]; exact Nat.le_refl _), List.take_of_length_le (by rw [rec_len]; exact Nat.le_refl _)]
theorem next_zeros (s : UInt64) (m : Nat) : nextOf 1 s (List.replicate m 0) = none := by
  unfold nextOf
  split
  · rfl
  · rw [if_pos]
    left
    rw [List.drop_replicate, numOf_zeros]; decide
theorem read_one (m : Nat) : readOf 1 (headOf 1 ++ (recOf 1 0 [97] ++ List.replicate m 0)) = ([[97]], 128) := by
  have hd : (headOf 1 ++ (recOf 1 0 [97] ++ List.replicate m 0)).drop 64 = recOf 1 0 [97] ++ List.replicate m 0 := by
    rw [List.drop_append_of_le_length (by rw [headOf_length]; exact Nat.le_refl _), List.drop_of_length_le (by rw [headOf_length]; exact Nat.le_refl _)]; rfl
  have hd2 : (recOf 1 0 [97] ++ List.replicate m 0).drop 64 = List.replicate m 0 := by
    rw [List.drop_append_of_le_length (by rw [rec_len]; exact Nat.le_refl _), List.drop_of_length_le (by rw [rec_len]; exact Nat.le_refl _)]; rfl
  unfold readOf
  rw [hd, readFrom_some (next_rec m) (by simp only [List.length_append, headOf_length]; omega), hd2, readFrom_none (next_zeros _ m)]
  rfl
def wS1 : List UInt8 := headOf 1 ++ List.replicate 448 0
def wS2 : List UInt8 := headOf 1 ++ (recOf 1 0 [97] ++ List.replicate 384 0)
theorem wS1_len : wS1.length = 8 * 64 := by unfold wS1; rw [List.length_append, headOf_length, List.length_replicate]
theorem wS2_len : wS2.length = 8 * 64 := by unfold wS2; rw [List.length_append, List.length_append, headOf_length, rec_len, List.length_replicate]
theorem pick_zeros : pickOf (List.replicate 512 0) (8 / 2 * 64) = (0, 0) := by
  unfold pickOf; simp only [List.drop_replicate, List.take_replicate, begun_zeros]; rfl
theorem works_1 : openOf 8 (List.replicate 512 0) = ⟨0, 1, 64, [], wS1⟩ := by
  unfold openOf
  rw [pick_zeros, if_pos rfl]
  have e1 : lay (List.replicate 512 0) ((1 - 1) * (8 / 2 * 64) + 0) (List.replicate (8 / 2 * 64) (0 : UInt8)) = List.replicate 512 0 := by
    unfold lay; simp only [List.take_replicate, List.drop_replicate, List.replicate_append_replicate, List.length_replicate]; rfl
  have e2 : lay (List.replicate 512 0) ((1 - 1) * (8 / 2 * 64) + 0) (headOf ((0 : UInt64) + 1)) = wS1 := by
    unfold lay wS1; rw [headOf_length, List.drop_replicate]; rfl
  have e3 : overS 8 1 0 (List.replicate 512 0) [] = wS1 := by
    unfold overS; rw [e1, show recsOf ((0 : UInt64) + 1) 0 [] = [] from rfl, lay_nil, e2]
  show LogSt.mk (1 - 1) (0 + 1) (64 + (recsOf (0 + 1) 0 []).length) [] (overS 8 1 0 (List.replicate 512 0) []) = _
  rw [e3]; rfl
theorem works_2 : lay wS1 (0 * (8 / 2 * 64) + 64) (recOf 1 (UInt64.ofNat 0) [97]) = wS2 := by
  have e : (UInt64.ofNat 0 : UInt64) = 0 := rfl
  unfold lay wS1 wS2
  rw [e, rec_len]
  rw [show 0 * (8 / 2 * 64) + 64 = 64 from rfl, List.take_append_of_le_length (by rw [headOf_length]; exact Nat.le_refl _), List.take_of_length_le (by rw [headOf_length]; exact Nat.le_refl _)]
  rw [List.drop_append, List.drop_of_length_le (by rw [headOf_length]; decide), headOf_length, List.drop_replicate, List.append_assoc]; rfl
theorem half_1 : wS2.take (8 / 2 * 64) = headOf 1 ++ (recOf 1 0 [97] ++ List.replicate 128 0) := by
  unfold wS2
  rw [show 8 / 2 * 64 = 256 from rfl, List.take_append, List.take_of_length_le (by rw [headOf_length]; decide), headOf_length, List.take_append, List.take_of_length_le (by rw [rec_len]; decide), rec_len, List.take_replicate]
  rfl
theorem half_2 : (wS2.drop (8 / 2 * 64)) = List.replicate 256 0 := by
  unfold wS2
  rw [show 8 / 2 * 64 = 256 from rfl, List.drop_append, List.drop_of_length_le (by rw [headOf_length]; decide), headOf_length, List.drop_append, List.drop_of_length_le (by rw [rec_len]; decide), rec_len, List.drop_replicate]
  rfl
theorem pick_2 : pickOf wS2 (8 / 2 * 64) = (0, 1) := by
  unfold pickOf; rw [half_1, half_2, List.take_replicate, begun_zeros, begun_head]; rfl
theorem works_3 : openOf 8 wS2 = ⟨0, 1, 128, [[97]], wS2⟩ := by
  have h0 : hlf 8 wS2 0 = headOf 1 ++ (recOf 1 0 [97] ++ List.replicate 128 0) := by
    unfold hlf; rw [Nat.zero_mul, List.drop_zero, half_1]
  have hr : readSt 8 wS2 = ⟨0, 1, 128, [[97]], wS2⟩ := by
    unfold readSt; rw [pick_2, h0, read_one]
  unfold openOf
  rw [pick_2, if_neg (by decide), if_pos, hr]
  intro x hx
  unfold restOf at hx
  rw [hr, h0] at hx
  simp only [List.drop_append, headOf_length, rec_len, List.drop_replicate] at hx
  rw [List.drop_of_length_le (by rw [headOf_length]; decide), List.drop_of_length_le (by rw [rec_len]; decide)] at hx
  simpa using hx

/-- Opened, a disk has just the records that are read of it. -/
theorem open_read (n : Nat) (b : List UInt8) (hl : b.length = n * 64) (h8 : 8 ≤ n) : ∃ g l, readDisk b = some (g, l) ∧ readR b = (g, l, 0) ∧ (openOf n b).recs = l ∧ ((openOf n b).gen = g ∨ (openOf n b).gen = g + 1) := by
  have hh : halfLen b = n / 2 * 64 := by unfold halfLen; rw [hl, Nat.mul_div_cancel _ (by decide)]
  have e1 : readDisk b = if (pickOf b (n / 2 * 64)).2 = 0 then some (0, []) else some ((pickOf b (n / 2 * 64)).2, (readOf (pickOf b (n / 2 * 64)).2 (hlf n b (pickOf b (n / 2 * 64)).1)).1) := by
    unfold readDisk; rw [if_neg (by omega), hh]; unfold halfOf hlf; rw [hh]
  unfold readR
  by_cases h0 : (pickOf b (n / 2 * 64)).2 = 0
  · refine ⟨0, [], ?_⟩
    rw [e1, if_pos h0]
    refine ⟨rfl, rfl, ?_⟩
    unfold openOf; rw [if_pos h0, h0]; exact ⟨rfl, Or.inr rfl⟩
  · refine ⟨_, _, by rw [e1, if_neg h0], by rw [e1, if_neg h0], ?_⟩
    unfold openOf; rw [if_neg h0]
    split
    · exact ⟨rfl, Or.inl rfl⟩
    · exact ⟨rfl, Or.inr rfl⟩
theorem readR_none (b : List UInt8) (h : b.length % 64 ≠ 0 ∨ b.length < 512) : readR b = (0, [], 1) := by
  unfold readR readDisk; rw [if_pos h]
theorem readR_len (b : List UInt8) : (readR b).2.1.length ≤ b.length ∧ ∀ x ∈ (readR b).2.1, x.length ≤ b.length := by
  unfold readR readDisk
  by_cases h1 : b.length % 64 ≠ 0 ∨ b.length < 512
  · rw [if_pos h1]; simp
  rw [if_neg h1]
  by_cases h2 : (pickOf b (halfLen b)).2 = 0
  · rw [if_pos h2]; simp
  rw [if_neg h2]
  have hk : (pickOf b (halfLen b)).1 = 0 ∨ (pickOf b (halfLen b)).1 = 1 := by unfold pickOf; split <;> simp
  have hl : (halfOf b (pickOf b (halfLen b)).1).length = halfLen b := by
    unfold halfOf; rw [List.length_take, List.length_drop]
    have : 2 * halfLen b ≤ b.length := by unfold halfLen; omega
    rcases hk with h | h <;> rw [h] <;> omega
  have h64 : 64 ≤ halfLen b ∧ halfLen b ≤ b.length := by unfold halfLen; omega
  obtain ⟨r1, r2, r3⟩ := readOf_len (pickOf b (halfLen b)).2 0 (halfOf b (pickOf b (halfLen b)).1) (by omega)
  have := recsOf_ge 0 (readOf (pickOf b (halfLen b)).2 (halfOf b (pickOf b (halfLen b)).1)).1 0
  refine ⟨?_, fun x hx => ?_⟩
  · show (readOf (pickOf b (halfLen b)).2 (halfOf b (pickOf b (halfLen b)).1)).1.length ≤ _
    omega
  · have := r3 x hx; omega
theorem works_1' : openOf 8 (List.replicate (8 * 64) 0) = ⟨0, 1, 64, [], wS1⟩ := works_1
attribute [irreducible] wS1 wS2
end Go.Proofs.Ytamghofogkdafaa
