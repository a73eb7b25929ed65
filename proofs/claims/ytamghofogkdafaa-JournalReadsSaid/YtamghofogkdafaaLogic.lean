/- A small separation logic over the model's walk: what is known of a frame (Fr), what is known of the heap (St: a list of assertions, each owning or using blocks), and one rule for each operation. No condition: a library of lemmas. -/
import Derived.WalkKit
import Derived.Orders
import Derived.KernelRfl
import Derived.Laws.CopyOwn
namespace Go.Bz

/-! ## Frames -/
def lk : List (Nat × Value) → Nat → Option Value
  | [], _ => none
  | (k, v) :: r, t => match Nat.beq k t with | true => some v | false => lk r t

structure Fr (n : Nat) (ds : List Deferred) (a : Act) (F : List (Nat × Value)) : Prop where
  size : a.tmps.size = n
  defers : a.defers = ds
  get : ∀ t v, lk F t = some v → a.tmps.getD t undef = v

def evo (F : List (Nat × Value)) : Operand → Option Value
  | .tmp t => lk F t
  | .const v => some v
  | .global g => some (.pointer (some ⟨g, 0, none⟩))
  | .func f => some (.func (.func f) #[] #[])

variable {n : Nat} {ds : List Deferred} {a : Act} {F : List (Nat × Value)} {P : Program} {ops : Array Oper} {Q : Exit → Act → World → Prop} {rest : List Oper} {w w' : World}

theorem Fr.eval (h : Fr n ds a F) {x : Operand} {v : Value} (hx : evo F x = some v) : a.eval x = v := by
  cases x with
  | tmp t => exact h.get t v hx
  | const c => exact Option.some.inj hx
  | global g => exact Option.some.inj hx
  | func f => exact Option.some.inj hx

def putF (F : List (Nat × Value)) (dst : Option Tmp) (v : Value) : List (Nat × Value) :=
  match dst with
  | some d => (d, v) :: F
  | none => F

def dstOk (n : Nat) : Option Tmp → Bool
  | some d => Nat.blt d n
  | none => true

theorem Fr.put (h : Fr n ds a F) (dst : Option Tmp) (v : Value) (hd : dstOk n dst = true) : Fr n ds (a.put dst v) (putF F dst v) := by
  cases dst with
  | none => exact h
  | some d =>
    have hlt : d < n := Nat.blt_eq.mp hd
    refine ⟨by simp [Act.put, h.size], h.defers, fun t u hu => ?_⟩
    simp only [putF, lk] at hu
    have hs := h.size
    split at hu
    · rename_i hb
      have e : d = t := Nat.eq_of_beq_eq_true hb
      subst e
      have hu' : v = u := by simpa using hu
      subst hu'
      simp only [Act.put, Array.getD_eq_getD_getElem?]
      rw [Array.getElem?_setIfInBounds_self_of_lt (by rw [hs]; exact hlt)]
      rfl
    · rename_i hb
      have e : d ≠ t := fun e => by subst e; simp at hb
      have hg := h.get t u hu
      simp only [Array.getD_eq_getD_getElem?] at hg
      simp only [Act.put, Array.getD_eq_getD_getElem?]
      rw [Array.getElem?_setIfInBounds_ne e]
      exact hg

/-- What is known may be forgotten. -/
theorem Fr.weak (h : Fr n ds a F) (G : List (Nat × Value)) (hs : ∀ p ∈ G, lk F p.1 = some p.2) : Fr n ds a G := by
  refine ⟨h.size, h.defers, fun t v hv => ?_⟩
  have : ∃ p ∈ G, p.1 = t ∧ p.2 = v := by
    clear h hs
    induction G with
    | nil => simp [lk] at hv
    | cons p G ih =>
      obtain ⟨k, u⟩ := p
      simp only [lk] at hv
      split at hv
      · rename_i hb
        have e : k = t := Nat.eq_of_beq_eq_true hb
        exact ⟨(k, u), by simp, e, by simpa using hv⟩
      · obtain ⟨p, hp, h1, h2⟩ := ih hv
        exact ⟨p, by simp [hp], h1, h2⟩
  obtain ⟨p, hp, rfl, rfl⟩ := this
  exact h.get _ _ (hs p hp)

theorem Fr.weak0 (h : Fr n ds a F) : Fr n ds a [] := ⟨h.size, h.defers, fun t v hv => by simp [lk] at hv⟩
theorem Fr.weak1 {G : List (Nat × Value)} {k : Nat} {v : Value} (h : Fr n ds a G) (h' : Fr n ds a F) (hk : lk F k = some v) : Fr n ds a ((k, v) :: G) := by
  refine ⟨h.size, h.defers, fun t u hu => ?_⟩
  simp only [lk] at hu
  split at hu
  · rename_i hb
    have e : k = t := Nat.eq_of_beq_eq_true hb
    subst e
    have e2 : v = u := by simpa using hu
    subst e2
    exact h'.get _ _ hk
  · exact h.get _ _ hu

theorem evals (xs : List Operand) : ∀ vs : List Value, Fr n ds a F → xs.map (evo F) = vs.map some → xs.map a.eval = vs := by
  induction xs with
  | nil => intro vs _ h; cases vs <;> simp_all
  | cons x xs ih =>
    intro vs hF h
    cases vs with
    | nil => simp at h
    | cons v vs =>
      simp only [List.map_cons, List.cons.injEq] at h ⊢
      exact ⟨hF.eval h.1, ih vs hF h.2⟩

/-! ## The heap: assertions -/
structure Env (w w' : World) : Prop where
  os : w'.os = w.os
  tape : w'.tape = w.tape
  output : w'.output = w.output
  size : w.heap.size ≤ w'.heap.size

theorem Env.refl (w : World) : Env w w := ⟨rfl, rfl, rfl, Nat.le_refl _⟩
theorem Env.trans {a b c : World} (h : Env a b) (k : Env b c) : Env a c := ⟨k.os.trans h.os, k.tape.trans h.tape, k.output.trans h.output, Nat.le_trans h.size k.size⟩

structure Asrt where
  own : Nat → Prop
  use : Nat → Prop
  p : World → Prop
  stab : ∀ w w', Env w w' → (∀ b, own b ∨ use b → w'.heap[b]? = w.heap[b]?) → p w → p w'
  low : ∀ w, p w → ∀ b, own b ∨ use b → b < w.heap.size

def apart (A B : Asrt) : Prop := ∀ b, (A.own b → ¬ (B.own b ∨ B.use b)) ∧ (B.own b → ¬ (A.own b ∨ A.use b))
theorem apart.symm {A B : Asrt} (h : apart A B) : apart B A := fun b => ⟨(h b).2, (h b).1⟩

structure St (w : World) (M : List Asrt) : Prop where
  p : ∀ A ∈ M, A.p w
  ap : M.Pairwise apart

inductive Rm : List Asrt → Asrt → List Asrt → Prop
  | here {A R} : Rm (A :: R) A R
  | there {B R A R'} : Rm R A R' → Rm (B :: R) A (B :: R')

/-- A list tells an assertion: wherever the list holds, it holds. -/
structure In (M : List Asrt) (A : Asrt) : Prop where
  at_ : ∀ w, St w M → A.p w

theorem Rm.perm {M R : List Asrt} {A : Asrt} (h : Rm M A R) : M.Perm (A :: R) := by
  induction h with
  | here => exact List.Perm.refl _
  | there _ ih => exact (List.Perm.cons _ ih).trans (List.Perm.swap _ _ _)

theorem St.perm {M M' : List Asrt} (h : St w M) (hp : M.Perm M') : St w M' :=
  ⟨fun A hA => h.p A (hp.mem_iff.mpr hA), (hp.pairwise_iff (fun {_ _} h => apart.symm h)).mp h.ap⟩

/-- An assertion of the list to its front. -/
theorem St.front {M R : List Asrt} {A : Asrt} (h : St w M) (hr : Rm M A R) : St w (A :: R) := h.perm hr.perm
theorem St.tail {R : List Asrt} {A : Asrt} (h : St w (A :: R)) : St w R := ⟨fun B hB => h.p B (by simp [hB]), h.ap.tail⟩
theorem St.head {R : List Asrt} {A : Asrt} (h : St w (A :: R)) : A.p w := h.p A (by simp)
theorem St.drop {M R : List Asrt} {A : Asrt} (h : St w M) (hr : Rm M A R) : St w R := (h.front hr).tail
theorem In.here {A : Asrt} {R : List Asrt} : In (A :: R) A := ⟨fun _ h => h.head⟩
theorem In.there {B : Asrt} {R : List Asrt} {A : Asrt} (h : In R A) : In (B :: R) A := ⟨fun w hw => h.1 w hw.tail⟩
theorem St.get {M : List Asrt} {A : Asrt} (h : St w M) (hi : In M A) : A.p w := hi.1 w h
theorem In.rm {M R : List Asrt} {A B : Asrt} (hr : Rm M B R) (h : In R A) : In M A := ⟨fun w hw => h.1 w (hw.drop hr)⟩
theorem In.perm {M R : List Asrt} {A : Asrt} (hp : R.Perm M) (h : In M A) : In R A := ⟨fun w hw => h.1 w (hw.perm hp)⟩

/-- One list is a part of another one, in whatever order: what is left over is let go. -/
def Sub (M M' : List Asrt) : Prop := ∃ L, M.Perm (L ++ M')
theorem Sub.refl {M : List Asrt} : Sub M M := ⟨[], List.Perm.refl _⟩
theorem Sub.there {M M' : List Asrt} {B : Asrt} (h : Sub M M') : Sub (B :: M) M' := let ⟨L, h⟩ := h; ⟨B :: L, h.cons _⟩
theorem Sub.pick {M R M' : List Asrt} {A : Asrt} (hr : Rm M A R) (h : Sub R M') : Sub M (A :: M') := by
  obtain ⟨L, h⟩ := h
  refine ⟨L, hr.perm.trans ((h.cons A).trans ?_)⟩
  exact (List.perm_middle (l₁ := L)).symm
theorem St.cut {M M' : List Asrt} (h : St w M) (hs : Sub M M') : St w M' := by
  obtain ⟨L, hp⟩ := hs
  have h' := h.perm hp
  exact ⟨fun A hA => h'.p A (List.mem_append_right _ hA), (List.pairwise_append.mp h'.ap).2.1⟩
theorem In.sub_ {M M' : List Asrt} {A : Asrt} (hs : Sub M M') (h : In M' A) : In M A := ⟨fun w hw => h.1 w (hw.cut hs)⟩

/-- THE STEP: of the front assertion's blocks, and of new ones, alone something turns. -/
theorem St.step {R : List Asrt} {A B : Asrt} (h : St w (A :: R)) (he : Env w w')
    (hs : ∀ b, b < w.heap.size → ¬ A.own b → w'.heap[b]? = w.heap[b]?) (hp : B.p w')
    (ho : ∀ b, B.own b → A.own b ∨ w.heap.size ≤ b) (hu : ∀ b, B.use b → A.own b ∨ A.use b ∨ w.heap.size ≤ b) : St w' (B :: R) := by
  have hap := List.pairwise_cons.mp h.ap
  have hlow : ∀ C ∈ R, ∀ b, C.own b ∨ C.use b → b < w.heap.size := fun C hC => C.low w (h.p C (by simp [hC]))
  refine ⟨fun C hC => ?_, List.pairwise_cons.mpr ⟨fun C hC b => ⟨fun hb hcb => ?_, fun hcb hb => ?_⟩, hap.2⟩⟩
  · rcases List.mem_cons.mp hC with rfl | hC
    · exact hp
    · refine C.stab w w' he (fun b hb => hs b (hlow C hC b hb) fun hA => ?_) (h.p C (by simp [hC]))
      exact ((hap.1 C hC) b).1 hA hb
  · rcases ho b hb with hA | hge
    · exact ((hap.1 C hC) b).1 hA hcb
    · have := hlow C hC b hcb; omega
  · rcases hb with hb | hb
    · rcases ho b hb with hA | hge
      · exact ((hap.1 C hC) b).1 hA (.inl hcb)
      · have := hlow C hC b (.inl hcb); omega
    · rcases hu b hb with hA | hA | hge
      · exact ((hap.1 C hC) b).1 hA (.inl hcb)
      · exact ((hap.1 C hC) b).2 hcb (.inr hA)
      · have := hlow C hC b (.inl hcb); omega

/-- Something new comes; nothing old turns. -/
theorem St.new {R : List Asrt} {B : Asrt} (h : St w R) (he : Env w w')
    (hs : ∀ b, b < w.heap.size → w'.heap[b]? = w.heap[b]?) (hp : B.p w')
    (ho : ∀ b, B.own b → w.heap.size ≤ b) (hu : ∀ b, B.use b → w.heap.size ≤ b) : St w' (B :: R) := by
  have hlow : ∀ C ∈ R, ∀ b, C.own b ∨ C.use b → b < w.heap.size := fun C hC => C.low w (h.p C hC)
  refine ⟨fun C hC => ?_, List.pairwise_cons.mpr ⟨fun C hC b => ⟨fun hb hcb => ?_, fun hcb hb => ?_⟩, h.ap⟩⟩
  · rcases List.mem_cons.mp hC with rfl | hC
    · exact hp
    · exact C.stab w w' he (fun b hb => hs b (hlow C hC b hb)) (h.p C hC)
  · have := hlow C hC b hcb; have := ho b hb; omega
  · have := hlow C hC b (.inl hcb)
    rcases hb with hb | hb
    · have := ho b hb; omega
    · have := hu b hb; omega

/-- The same list, behind a draw or an idle block. -/
theorem St.still {R : List Asrt} (h : St w R) (he : Env w w') (hs : ∀ b, b < w.heap.size → w'.heap[b]? = w.heap[b]?) : St w' R := by
  have hlow : ∀ C ∈ R, ∀ b, C.own b ∨ C.use b → b < w.heap.size := fun C hC => C.low w (h.p C hC)
  exact ⟨fun C hC => C.stab w w' he (fun b hb => hs b (hlow C hC b hb)) (h.p C hC), h.ap⟩

/-- What uses no more than what is used, and owns nothing, may be added. -/
theorem St.know {M : List Asrt} {A B : Asrt} (h : St w M) (hm : A ∈ M) (hp : B.p w) (ho : ∀ b, ¬ B.own b) (ha : ∀ b, ¬ A.own b) (hu : ∀ b, B.use b → A.use b) : St w (B :: M) := by
  refine ⟨fun C hC => ?_, List.pairwise_cons.mpr ⟨fun C hC b => ⟨fun hb => (ho b hb).elim, fun hcb hb => ?_⟩, h.ap⟩⟩
  · rcases List.mem_cons.mp hC with rfl | hC
    · exact hp
    · exact h.p C hC
  · rcases hb with hb | hb
    · exact ho b hb
    · by_cases e : C = A
      · subst e; exact ha b hcb
      · have key : apart C A := by
          have hap := h.ap
          clear hp hu
          induction M with
          | nil => simp at hC
          | cons D M ih =>
            have hc := List.pairwise_cons.mp hap
            rcases List.mem_cons.mp hC with rfl | hC'
            · rcases List.mem_cons.mp hm with rfl | hm'
              · exact (e rfl).elim
              · exact hc.1 A hm'
            · rcases List.mem_cons.mp hm with rfl | hm'
              · exact (hc.1 C hC').symm
              · exact ih ⟨fun X hX => h.p X (by simp [hX]), hc.2⟩ hm' hC' hc.2
        exact (key b).1 hcb (.inr (hu b hb))

/-- What is owned may be turned into what is used (and changed by nobody any more). -/
theorem St.turn {R : List Asrt} {A B : Asrt} (h : St w (A :: R)) (hp : B.p w) (ho : ∀ b, B.own b → A.own b) (hu : ∀ b, B.use b → A.own b ∨ A.use b) : St w (B :: R) :=
  h.step (Env.refl w) (fun _ _ _ => rfl) hp (fun b hb => .inl (ho b hb)) (fun b hb => (hu b hb).elim .inl (fun h => .inr (.inl h)))

/-! ### a block of one's own -/
def blkP (b : Nat) (T : TypeId) (c : List Value) (w : World) : Prop := w.heap[b]? = some (.cells c.toArray T (0, 0)) ∧ ∀ u ∈ c, u.oneCell' = true
def blkA (b : Nat) (T : TypeId) (c : List Value) : Asrt where
  own := fun k => k = b
  use := fun _ => False
  p := blkP b T c
  stab := fun w w' _ hs h => by
    unfold blkP at *
    rw [hs b (.inl rfl)]; exact h
  low := fun w h k hk => by
    simp only [or_false] at hk
    subst hk
    exact (Array.getElem?_eq_some_iff.1 h.1).1

/-! ### a slice that nobody changes: the cells of its elements -/
def slP (sz : Nat) (v : Value) (cs : List Value) (w : World) : Prop :=
  (v = .slice none 0 0 ∧ cs = []) ∨
  ∃ b o m c cells T fr, v = .slice (some ⟨b, o, none⟩) m c ∧ m ≤ c ∧ cs.length = m * sz ∧ w.heap[b]? = some (.cells cells T fr) ∧ (∀ j u, cs[j]? = some u → cells[o + j]? = some u) ∧ ∀ u ∈ cs, u.oneCell' = true
def slUse (v : Value) (b : Nat) : Prop := ∃ x m c, v = .slice (some x) m c ∧ x.block = b
def slA (sz : Nat) (v : Value) (cs : List Value) : Asrt where
  own := fun _ => False
  use := slUse v
  p := slP sz v cs
  stab := fun w w' _ hs h => by
    rcases h with h | ⟨b, o, m, c, cells, T, fr, rfl, hmc, hl, hb, hc⟩
    · exact .inl h
    · refine .inr ⟨b, o, m, c, cells, T, fr, rfl, hmc, hl, ?_, hc⟩
      rw [hs b (.inr ⟨_, _, _, rfl, rfl⟩)]; exact hb
  low := fun w h k hk => by
    simp only [false_or] at hk
    obtain ⟨x, m, c, rfl, rfl⟩ := hk
    rcases h with ⟨h, _⟩ | ⟨b, o, m', c', cells, T, fr, hv, _, _, hb, _⟩
    · cases h
    · simp only [Value.slice.injEq, Option.some.injEq] at hv
      rw [hv.1]
      exact (Array.getElem?_eq_some_iff.1 hb).1

theorem slP.len {sz : Nat} {v : Value} {cs : List Value} (h : slP sz v cs w) : ∃ x m c, v = .slice x m c ∧ m ≤ c ∧ cs.length = m * sz := by
  rcases h with ⟨rfl, rfl⟩ | ⟨b, o, m, c, cells, T, fr, rfl, hmc, hl, _⟩
  · exact ⟨none, 0, 0, rfl, Nat.le_refl _, by simp⟩
  · exact ⟨_, m, c, rfl, hmc, hl⟩

/-! ### a row that grows: a slice of one's own, with what lies behind its length -/
def rowP (T : TypeId) (sz : Nat) (v : Value) (cs : List Value) (w : World) : Prop :=
  ((v = .slice none 0 0 ∧ cs = []) ∨
   ∃ g k cap cur, v = .slice (some ⟨g, 0, none⟩) k cap ∧ cs.length = k * sz ∧ w.heap[g]? = some (.cells cur T (0, 0)) ∧ k ≤ cap ∧ cap ≤ maxLen ∧ cur.size = cap * sz ∧ cur.toList.take (k * sz) = cs) ∧ ∀ u ∈ cs, u.oneCell' = true
def rowA (T : TypeId) (sz : Nat) (v : Value) (cs : List Value) : Asrt where
  own := slUse v
  use := fun _ => False
  p := rowP T sz v cs
  stab := fun w w' _ hs h => by
    obtain ⟨h, h1⟩ := h
    rcases h with h | ⟨g, k, cap, cur, rfl, hl, hg, rest⟩
    · exact ⟨.inl h, h1⟩
    · exact ⟨.inr ⟨g, k, cap, cur, rfl, hl, by rw [hs g (.inl ⟨_, _, _, rfl, rfl⟩)]; exact hg, rest⟩, h1⟩
  low := fun w h b hk => by
    simp only [or_false] at hk
    obtain ⟨x, m, c, rfl, rfl⟩ := hk
    obtain ⟨h, h1⟩ := h
    rcases h with ⟨h, _⟩ | ⟨g, k, cap, cur, hv, hl, hg, _⟩
    · cases h
    · simp only [Value.slice.injEq, Option.some.injEq] at hv
      rw [hv.1]
      exact (Array.getElem?_eq_some_iff.1 hg).1

/-- A row of one's own is a slice. -/
theorem rowP.sl {T : TypeId} {sz : Nat} {v : Value} {cs : List Value} (h : rowP T sz v cs w) : slP sz v cs w := by
  obtain ⟨h, h1⟩ := h
  rcases h with ⟨rfl, rfl⟩ | ⟨g, k, cap, cur, rfl, hl, hg, hkc, _, hcs, ht⟩
  · exact .inl ⟨rfl, rfl⟩
  · refine .inr ⟨g, 0, k, cap, cur, T, (0, 0), rfl, hkc, hl, hg, fun j u hj => ?_, h1⟩
    rw [← ht, List.getElem?_take] at hj
    split at hj
    · simpa using hj
    · cases hj

theorem St.seal {R : List Asrt} {T : TypeId} {sz : Nat} {v : Value} {cs : List Value} (h : St w (rowA T sz v cs :: R)) : St w (slA sz v cs :: R) :=
  h.turn (rowP.sl h.head) (fun _ hb => hb.elim) (fun _ hb => .inl hb)

/-! ### what was there at the begin -/
def oldA (w₀ : World) : Asrt where
  own := fun _ => False
  use := fun b => b < w₀.heap.size
  p := fun w => Env w₀ w ∧ ∀ b, b < w₀.heap.size → w.heap[b]? = w₀.heap[b]?
  stab := fun w w' he hs h => ⟨h.1.trans he, fun b hb => (hs b (.inr hb)).trans (h.2 b hb)⟩
  low := fun w h b hb => by
    simp only [false_or] at hb
    exact Nat.lt_of_lt_of_le hb h.1.size

end Go.Bz
