/- Whatever bytes a disk has: what the journal reads of them, and what it opens, is what the chapter says; beginning, record and text are written as it says ('Rows.JournalReadsSaid'). No condition beyond the statement's. -/
import Derived.Test.YtamghofogkdafaaRows
import Derived.Test.YtamghofogkdafaaRoot
import Derived.Test.YtamghofogkdafaaJour7
import Derived.OpenShut
import Derived.ShutString
import Derived.ChangeOld
set_option linter.all false
namespace Go.Proofs.Ytamghofogkdafaa.journalReads
open Go.ChangeShapes Go.WideShapes Go.ChangeAt Go.RowKit Go.Bz
set_option linter.unusedVariables false

theorem own : ownKnob Try.prog.godebug = none := by kernel_rfl
theorem laidOut : laidOutB Try.prog = true := by kernel_rfl

theorem walk (a0 : Option Addr) (c0 : Nat) (b0 : List UInt8) (g s : UInt64) (a3 : Option Addr) (c3 : Nat) (b3 : List UInt8) (w : World) (h0 : (txA a0 c0 b0).p w) (h3 : (txA a3 c3 b3).p w) :
    Calls Try.prog 3 #[tx a0 c0 b0, u64 g, u64 s, tx a3 c3 b3] w fun e w' => e = .returned (.bool true) ∧ Below w.heap.size w w' := by
  have hS : St w [oldA w, txA a0 c0 b0, txA a3 c3 b3] := St.reads (fun A hA => by
    simp only [List.mem_cons, List.not_mem_nil, or_false] at hA
    rcases hA with rfl | rfl | rfl
    · exact oldA_self w
    · exact h0
    · exact h3) (fun A hA b => by
    simp only [List.mem_cons, List.not_mem_nil, or_false] at hA
    rcases hA with rfl | rfl | rfl <;> exact fun h => h)
  refine (jreads_t a0 c0 b0 g s a3 c3 b3 w _ hS (In.there In.here) (In.there (In.there In.here))).mono fun e w' h => ?_
  cases e with
  | returned v => exact ⟨by rw [h.1], below_of h.2.head⟩
  | _ => exact h.elim

set_option maxRecDepth 100000 in
theorem lifted (os : Os) (started : os.Started) (H : Type) (enc : TypeId × Value → H) :
    ReturnsInHanded {} Try.checked os 3 .any (Rows.journalReadsSpec.pre6 enc Try.prog Try.f3 Rows.journalReadsRow.domain false) (Rows.journalReadsSpec.post enc Try.prog Try.f3 false true false false) := by
  refine returnsInHanded_of_change (C := Try.checked) own started (by kernel_rfl) Try.func3
    (ChangeSpec.witness6 (enc := enc) (C := Try.checked) false ⟨#[], #[.slice none 0 0, .int .u64 0, .int .u64 0, .slice none 0 0], []⟩ 8 (by kernel_rfl) (by kernel_rfl) (by kernel_rfl) (by kernel_rfl)) ?_
  intro W base args ds gs before hval0 hW hcnd _
  have hval : ∀ (j : Nat) t v, Try.f3.params[j]? = some t → args[j]? = some v → Value.okWide Try.prog W .any base t v := hval0
  have hW' := hW
  obtain ⟨p, q, hA0, hV, rfl, hfz, hnd⟩ := hW
  have hA : DataW.TrodAll enc Try.prog W 0 (fun _ => true) true Try.f3.params.toList args.toList ds p := hA0
  rw [Try.params3] at hA hval
  obtain ⟨v0, vs0, d0, ds0, p0, q0, hargs, rfl, rfl, h0, r0⟩ := trodAll_cons hA
  obtain ⟨v1, vs1, d1, ds1, p1, q1, rfl, rfl, rfl, h1, r1⟩ := trodAll_cons r0
  obtain ⟨v2, vs2, d2, ds2, p2, q2, rfl, rfl, rfl, h2, r2⟩ := trodAll_cons r1
  obtain ⟨v3, vs3, d3, ds3, p3, q3, rfl, rfl, rfl, h3, r3⟩ := trodAll_cons r2
  obtain ⟨rfl, rfl, rfl⟩ := trodAll_nil r3
  obtain rfl : args = #[v0, v1, v2, v3] := by cases args; simp_all
  obtain ⟨rfl, rfl⟩ := trodVars_none hV
  have ok0 := hval 0 22 v0 rfl rfl
  have ok3 := hval 3 22 v3 rfl rfl
  obtain ⟨a0, len0, cap0, rfl⟩ := okWide_slice Try.underlying22 ok0
  have k0 := h0
  have lt0 : ∀ x ∈ p0, x.block < W.heap.size := by obtain ⟨m, hm⟩ := k0; exact DataW.trod_lt m _ _ _ hm
  obtain ⟨b0, e0, w0⟩ : ∃ b, Value.slice a0 len0 cap0 = tx a0 cap0 b ∧ (txA a0 cap0 b).p W := by
    obtain ⟨fuel, hf⟩ := h0
    exact text_of Try.underlying22 Try.underlying5 (by kernel_rfl) ok0 hf
  obtain ⟨a1, rfl, rfl, rfl, w1⟩ := open_int Try.underlying23 (hval 1 23 v1 rfl rfl) h1
  obtain ⟨a2, rfl, rfl, rfl, w2⟩ := open_int Try.underlying23 (hval 2 23 v2 rfl rfl) h2
  obtain ⟨a3, len3, cap3, rfl⟩ := okWide_slice Try.underlying22 ok3
  have k3 := h3
  have lt3 : ∀ x ∈ p3, x.block < W.heap.size := by obtain ⟨m, hm⟩ := k3; exact DataW.trod_lt m _ _ _ hm
  obtain ⟨b3, e3, w3⟩ : ∃ b, Value.slice a3 len3 cap3 = tx a3 cap3 b ∧ (txA a3 cap3 b).p W := by
    obtain ⟨fuel, hf⟩ := h3
    exact text_of Try.underlying22 Try.underlying5 (by kernel_rfl) ok3 hf
  obtain ⟨g, hg⟩ := u64_of w1
  obtain ⟨s, hs⟩ := u64_of w2
  clear hA0 hval0
  have hwalk : Calls Try.prog 3 #[.slice a0 len0 cap0, .int .u64 a1, .int .u64 a2, .slice a3 len3 cap3] W fun e w' => e = .returned (.bool true) ∧ Below W.heap.size W w' := by
    rw [e0, e3, hg, hs]
    exact walk a0 cap0 b0 g s a3 cap3 b3 W w0 w3
  refine hwalk.mono fun e W' ⟨he, bel⟩ => ?_
  subst he
  exact ⟨_, rfl, _, _, _, [], _, [], hW', trodAll_mk1 (shut_bool Try.underlying4 _), (trodAll_cons_mk (Below.trod laidOut (by kernel_rfl) (of_decide_eq_true (by kernel_rfl)) k0 bel lt0) (trodAll_cons_mk (shut_int Try.underlying23 w1) (trodAll_cons_mk (shut_int Try.underlying23 w2) (trodAll_cons_mk (Below.trod laidOut (by kernel_rfl) (of_decide_eq_true (by kernel_rfl)) k3 bel lt3) trodAll_mk0)))), rfl, bel.frame _, fun h => by cases h⟩

theorem over : Rows.journalReadsRow.holds Try.pinned (OpenSpec.ofChange Rows.journalReadsSpec) :=
  OpenClaim.holds_of_wide 3 Try.f3 rfl rfl rfl rfl rfl rfl rfl ⟨rfl, rfl, rfl, rfl, rfl⟩ rfl rfl rfl rfl rfl (by kernel_rfl) Try.func3 (by kernel_rfl)
    (of_decide_eq_true (by kernel_rfl)) (by unfold Func.isWrapper; first | (rw [if_pos (by decide +kernel)]; kernel_rfl) | (rw [if_neg (by decide +kernel)]; exact ⟨rfl, rfl⟩))
    (fun os started H enc _ => lifted os started H enc)

/-- The statement. -/
theorem proved : Rows.JournalReadsSaid := over
#print axioms proved
end Go.Proofs.Ytamghofogkdafaa.journalReads
