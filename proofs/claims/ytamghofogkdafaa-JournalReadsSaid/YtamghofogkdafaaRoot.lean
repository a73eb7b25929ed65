/- From the arguments of a row's statement to the assertions of the walk, and back: bytes and numbers that came in, and that nothing that was there is changed. No condition: a library of lemmas. -/
import Derived.Test.YtamghofogkdafaaMore
import Derived.WalkKit
import Derived.ProofKit
import Derived.Below
namespace Go.Bz
open Go.ChangeShapes Go.WideShapes Go.ChangeAt Go.RowKit
variable {H : Type} {enc : TypeId × Value → H} {P : Program}

/-- The bytes of whole numbers. -/
def bytesOf (zs : List Int) : List UInt8 := zs.map fun n => UInt8.ofNat n.toNat
theorem u8_of {n : Int} (h : (Lit.int .u8 n).wf = true) : u8 (UInt8.ofNat n.toNat) = .int .u8 n := by
  have hx : 0 ≤ n ∧ n ≤ 255 := by simpa [Lit.wf, IntKind.min, IntKind.max, IntKind.signed, IntKind.bits] using h
  unfold u8
  congr 1
  rw [UInt8.toNat_ofNat']
  omega
theorem u64_of {n : Int} (h : (Lit.int .u64 n).wf = true) : ∃ g : UInt64, .int .u64 n = u64 g := by
  have hx : 0 ≤ n ∧ n ≤ 18446744073709551615 := by simpa [Lit.wf, IntKind.min, IntKind.max, IntKind.signed, IntKind.bits] using h
  refine ⟨UInt64.ofNat n.toNat, ?_⟩
  unfold u64
  congr 1
  rw [UInt64.toNat_ofNat']
  omega
/-- A slice of bytes that came in is a text. -/
theorem text_of {t e : TypeId} {W : World} {base base' fuel : Nat} {spare : Nat → Bool} {held : Bool} {a : Option Addr} {len cap : Nat} {x : DataW H × List MemPlace} (ht : P.underlying t = some (.slice e)) (he : P.underlying e = some (.int .u8)) (hc : P.cellsOf e = 1)
    (hv : Value.okWide P W .any base t (.slice a len cap)) (h : DataW.trod enc P W base' spare held fuel t [.slice a len cap] = some x) : ∃ b : List UInt8, .slice a len cap = tx a cap b ∧ (txA a cap b).p W := by
  rcases open_ints ht he hc h with ⟨hcs, _⟩ | ⟨y, l, c, zs, hcs, _, hl, hm, hz, _, hcell, hwz⟩
  · simp only [List.cons.injEq, Value.slice.injEq, and_true] at hcs
    obtain ⟨rfl, rfl, rfl⟩ := hcs
    exact ⟨[], rfl, .inl ⟨rfl, rfl⟩⟩
  · simp only [List.cons.injEq, Value.slice.injEq, and_true] at hcs
    obtain ⟨rfl, rfl, rfl⟩ := hcs
    have hh : W.has P .any base y e cap := by
      simp only [Value.okWide, ht, Cell.okWide, Cell.ok] at hv
      exact hv.2.2
    obtain ⟨_, hsp, row, cells, hshape, _⟩ := hh
    obtain ⟨b, o, s⟩ := y
    simp only at hsp hshape
    subst hsp
    have hlz : len ≤ zs.length := by rw [hz]; split <;> omega
    unfold World.shape? at hshape
    split at hshape
    · rename_i cs T fr hb
      refine ⟨bytesOf (zs.take len), ?_, .inr ⟨b, o, len, cap, cs, T, fr, ?_, hl, ?_, hb, ?_, ?_⟩⟩
      · unfold tx bytesOf; rw [List.length_map, List.length_take, Nat.min_eq_left hlz]
      · unfold tx bytesOf; rw [List.length_map, List.length_take, Nat.min_eq_left hlz]
      · unfold bytesOf; rw [List.length_map, List.length_map, List.length_take, Nat.min_eq_left hlz, Nat.mul_one]
      · intro j u hj
        unfold bytesOf at hj
        rw [List.map_map, List.getElem?_map, Option.map_eq_some_iff] at hj
        obtain ⟨n, hn, rfl⟩ := hj
        rw [List.getElem?_take] at hn
        split at hn
        · obtain ⟨hj', hn⟩ := List.getElem?_eq_some_iff.mp hn
          have h1 := hcell j hj'
          have h2 : zs.getD j 0 = n := by rw [List.getD_eq_getElem?_getD, List.getElem?_eq_getElem hj', hn]; rfl
          rw [h2] at h1
          have h3 : (Lit.int .u8 n).wf = true := hwz n (by rw [← hn]; exact List.getElem_mem _)
          have h4 : cs[o + j]? = some (.int .u8 n) := by
            have hadd : (⟨b, o, none⟩ : Addr).add j = ⟨b, o + j, none⟩ := by
              unfold Addr.add; split <;> simp_all
            have h5 := h1
            rw [hadd] at h5
            simpa [World.cell?, hb] using h5
          rw [h4]
          exact congrArg some (u8_of h3).symm
        · cases hn
      · exact ones8 _
    · cases hshape
/-- Nothing that was there is changed. -/
theorem below_of {W W' : World} (h : (oldA W).p W') : Below W.heap.size W W' := ⟨h.1.os, h.1.tape, h.1.output, h.1.size, h.2⟩
/-- What is only read may be asked at once. -/
theorem St.reads {w : World} {M : List Asrt} (hp : ∀ A ∈ M, A.p w) (ho : ∀ A ∈ M, ∀ b, ¬ A.own b) : St w M := by
  refine ⟨hp, ?_⟩
  induction M with
  | nil => exact List.Pairwise.nil
  | cons A M ih =>
    refine List.pairwise_cons.mpr ⟨fun B hB b => ⟨fun h => (ho A (by simp) b h).elim, fun h => (ho B (by simp [hB]) b h).elim⟩, ih (fun B hB => hp B (by simp [hB])) (fun B hB => ho B (by simp [hB]))⟩
theorem oldA_self (w : World) : (oldA w).p w := ⟨Env.refl w, fun _ _ => rfl⟩
end Go.Bz
