/- The journal as plain functions on lists of bytes. No condition: definitions and lemmas; no program here. -/
import Derived.Test.YtamghofogkdafaaShaSpec
namespace Go.Bz

/-- Whole sectors. -/
def padTo (b : List UInt8) : List UInt8 := b ++ List.replicate ((b.length + 63) / 64 * 64 - b.length) 0
theorem padTo_len (b : List UInt8) : (padTo b).length = (b.length + 63) / 64 * 64 := by unfold padTo; simp; omega
theorem sha_length (b : List UInt8) : (sha b).length = 32 := by unfold sha outOf; simp [V8.list]
theorem be64_n (x : UInt64) : (be64 x).length = 8 := by unfold be64; simp
def headOf (gen : UInt64) : List UInt8 := padTo ((72 :: be64 gen) ++ sha (72 :: be64 gen))
def textOf (gen seq : UInt64) (b : List UInt8) : List UInt8 := 74 :: (be64 gen ++ (be64 seq ++ b))
def recOf (gen seq : UInt64) (b : List UInt8) : List UInt8 := padTo (74 :: (be64 gen ++ (be64 seq ++ (sha (textOf gen seq b) ++ (be64 (UInt64.ofNat b.length) ++ b)))))
theorem headOf_length (g : UInt64) : (headOf g).length = 64 := by unfold headOf; rw [padTo_len]; simp [be64_n, sha_length]
theorem textOf_length (g s : UInt64) (b : List UInt8) : (textOf g s b).length = 17 + b.length := by unfold textOf; simp [be64_n]; omega
theorem recOf_length (g s : UInt64) (b : List UInt8) : (recOf g s b).length = (57 + b.length + 63) / 64 * 64 := by
  unfold recOf; rw [padTo_len]; simp only [List.length_cons, List.length_append, be64_n, sha_length]; congr 2; omega

/-- The number of eight bytes. -/
def foldN (l : List UInt8) (n : UInt64) : UInt64 := l.foldl (fun n c => n * 256 + c.toUInt64) n
def numOf (b : List UInt8) : UInt64 := foldN (b.take 8) 0
theorem foldN_take (b : List UInt8) (k : Nat) (c : UInt8) (hc : b[k]? = some c) : foldN (b.take (k + 1)) 0 = foldN (b.take k) 0 * 256 + c.toUInt64 := by
  obtain ⟨hk, hc⟩ := List.getElem?_eq_some_iff.mp hc
  unfold foldN
  rw [List.take_succ_eq_append_getElem hk, List.foldl_append, hc]; rfl
theorem shl_or (n : UInt64) (c : UInt8) : UInt64.ofNat (n.toNat * 2 ^ 8) ||| c.toUInt64 = n * 256 + c.toUInt64 := by
  apply UInt64.toNat.inj
  have hc := c.toNat_lt
  rw [UInt64.toNat_or, UInt64.toNat_ofNat', UInt64.toNat_add, UInt64.toNat_mul, UInt8.toNat_toUInt64]
  have e : (256 : UInt64).toNat = 256 := rfl
  rw [e]
  have h1 : n.toNat * 2 ^ 8 % 2 ^ 64 = (n.toNat % 2 ^ 56) * 2 ^ 8 := by omega
  rw [h1, Nat.mul_comm, ← Nat.two_pow_add_eq_or_of_lt (by omega)]
  omega

theorem numOf_take (l : List UInt8) : numOf (l.take 8) = numOf l := by unfold numOf; rw [List.take_take]; rfl
/-- The record with which bytes begin, and how many bytes it has. -/
def nextOf (gen seq : UInt64) (b : List UInt8) : Option (List UInt8 × Nat) :=
  if b.length < 64 then none else
  if (numOf (b.drop 49)).toNat < 1 ∨ b.length - 57 < (numOf (b.drop 49)).toNat then none else
  if (recOf gen seq ((b.drop 57).take (numOf (b.drop 49)).toNat)).length ≤ b.length ∧ recOf gen seq ((b.drop 57).take (numOf (b.drop 49)).toNat) = b.take (recOf gen seq ((b.drop 57).take (numOf (b.drop 49)).toNat)).length
  then some ((b.drop 57).take (numOf (b.drop 49)).toNat, (recOf gen seq ((b.drop 57).take (numOf (b.drop 49)).toNat)).length) else none
theorem nextOf_some {gen seq : UInt64} {b x : List UInt8} {n : Nat} (h : nextOf gen seq b = some (x, n)) :
    64 ≤ n ∧ n ≤ b.length ∧ 0 < x.length ∧ n = (recOf gen seq x).length ∧ b.take n = recOf gen seq x ∧ x.length ≤ b.length ∧ x = (b.drop 57).take (numOf (b.drop 49)).toNat := by
  unfold nextOf at h
  split at h
  · cases h
  split at h
  · cases h
  split at h
  · rename_i h1 h2 h3
    simp only [Option.some.injEq, Prod.mk.injEq] at h
    obtain ⟨rfl, rfl⟩ := h
    have hl := recOf_length gen seq ((b.drop 57).take (numOf (b.drop 49)).toNat)
    have hx : ((b.drop 57).take (numOf (b.drop 49)).toNat).length = (numOf (b.drop 49)).toNat := by rw [List.length_take, List.length_drop]; omega
    refine ⟨by rw [hl, hx]; omega, h3.1, by rw [hx]; omega, rfl, h3.2.symm, by rw [hx]; omega, rfl⟩
  · cases h
/-- All records with which bytes begin, and where they end. -/
def readFrom (gen : UInt64) : Nat → Nat → List UInt8 → List (List UInt8) × Nat
  | 0, _, _ => ([], 0)
  | f + 1, k, b =>
    match nextOf gen (UInt64.ofNat k) b with
    | none => ([], 0)
    | some (x, n) => (x :: (readFrom gen f (k + 1) (b.drop n)).1, n + (readFrom gen f (k + 1) (b.drop n)).2)
def readOf (gen : UInt64) (half : List UInt8) : List (List UInt8) × Nat := ((readFrom gen half.length 0 (half.drop 64)).1, 64 + (readFrom gen half.length 0 (half.drop 64)).2)
theorem readFrom_none {gen : UInt64} {f k : Nat} {b : List UInt8} (h : nextOf gen (UInt64.ofNat k) b = none) : readFrom gen f k b = ([], 0) := by
  cases f with
  | zero => rfl
  | succ f => simp only [readFrom, h]
theorem readFrom_some {gen : UInt64} {f k n : Nat} {b x : List UInt8} (h : nextOf gen (UInt64.ofNat k) b = some (x, n)) (hf : b.length < f) :
    readFrom gen f k b = (x :: (readFrom gen (f - 1) (k + 1) (b.drop n)).1, n + (readFrom gen (f - 1) (k + 1) (b.drop n)).2) := by
  cases f with
  | zero => omega
  | succ f => simp only [readFrom, h, Nat.add_sub_cancel]
/-- The generation with which a half begins. -/
def begunOf (half : List UInt8) : UInt64 := if 0 < (numOf (half.drop 1)).toNat ∧ half.take 64 = headOf (numOf (half.drop 1)) then numOf (half.drop 1) else 0
def pickOf (b : List UInt8) (n : Nat) : Nat × UInt64 := if (begunOf (b.take n)).toNat < (begunOf ((b.drop n).take n)).toNat then (1, begunOf ((b.drop n).take n)) else (0, begunOf (b.take n))
def halfLen (b : List UInt8) : Nat := b.length / 64 / 2 * 64
def halfOf (b : List UInt8) (k : Nat) : List UInt8 := (b.drop (k * halfLen b)).take (halfLen b)
/-- What a disk's bytes have: the generation, the records; none: they are none such. -/
def readDisk (b : List UInt8) : Option (UInt64 × List (List UInt8)) :=
  if b.length % 64 ≠ 0 ∨ b.length < 512 then none else
  if (pickOf b (halfLen b)).2 = 0 then some (0, []) else
  some ((pickOf b (halfLen b)).2, (readOf (pickOf b (halfLen b)).2 (halfOf b (pickOf b (halfLen b)).1)).1)
def checkOf (b : List UInt8) : Bool := decide (b.length = 0 ∨ 1048576 < b.length)
/-- Records, one behind the other. -/
def recsOf (gen : UInt64) : Nat → List (List UInt8) → List UInt8
  | _, [] => []
  | k, b :: l => recOf gen (UInt64.ofNat k) b ++ recsOf gen (k + 1) l
theorem recsOf_app (gen : UInt64) (l m : List (List UInt8)) : ∀ k, recsOf gen k (l ++ m) = recsOf gen k l ++ recsOf gen (k + l.length) m := by
  induction l with
  | nil => intro k; rfl
  | cons b l ih => intro k; simp only [List.cons_append, recsOf, ih, List.append_assoc, List.length_cons]; congr 3; omega
theorem recsOf_take (gen : UInt64) (l : List (List UInt8)) (k : Nat) (hk : k < l.length) : recsOf gen 0 (l.take (k + 1)) = recsOf gen 0 (l.take k) ++ recOf gen (UInt64.ofNat k) l[k] := by
  rw [List.take_succ_eq_append_getElem hk, recsOf_app]
  simp [recsOf, List.length_take, Nat.min_eq_left (Nat.le_of_lt hk)]
theorem recsOf_take_le (gen : UInt64) (l : List (List UInt8)) (k : Nat) : (recsOf gen 0 (l.take k)).length ≤ (recsOf gen 0 l).length := by
  have e := recsOf_app gen (l.take k) (l.drop k) 0
  rw [List.take_append_drop] at e
  rw [e, List.length_append]; omega
theorem recsOf_mod (gen : UInt64) (l : List (List UInt8)) : ∀ k, (recsOf gen k l).length % 64 = 0 := by
  induction l with
  | nil => intro k; rfl
  | cons b l ih => intro k; simp only [recsOf, List.length_append]; have := ih (k + 1); have := recOf_length gen (UInt64.ofNat k) b; omega
theorem recsOf_ge (gen : UInt64) (l : List (List UInt8)) : ∀ k, 64 * l.length ≤ (recsOf gen k l).length := by
  induction l with
  | nil => intro k; simp [recsOf]
  | cons b l ih => intro k; simp only [recsOf, List.length_append, List.length_cons]; have := ih (k + 1); have := recOf_length gen (UInt64.ofNat k) b; omega
attribute [irreducible] numOf padTo headOf textOf recOf begunOf pickOf readOf
end Go.Bz
