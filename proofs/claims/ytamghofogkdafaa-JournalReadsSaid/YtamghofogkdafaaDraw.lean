/- Regions that draw their order: one walk along a plan (Sg) serves every order: what only reads is taken first; of the others either one alone is ready, or each of two is tried. No condition: a library of lemmas. -/
import Derived.Test.YtamghofogkdafaaMem
namespace Go.Bz

variable {n : Nat} {ds : List Deferred} {a : Act} {F : List (Nat × Value)} {P : Program} {ops : Array Oper} {Q : Exit → Act → World → Prop} {rest : List Oper} {w w' : World}
variable {d : Nat} {ty : TypeId} {pos : String} {after : Array Edge} {C : World → Prop} {q : Nat → Bool}

/-- May j be done ahead of something that reads (of 'q')? -/
def early (ops : Array Oper) (q : Nat → Bool) (j : Nat) : Bool :=
  match ops[j]? with
  | some o => (List.range ops.size).any fun i => q i && !(o.after.any fun e => Region.binds .any e && e.on == i)
  | none => false

def wpC (P : Program) (ops : Array Oper) (C : World → Prop) (q : Nat → Bool) (Q : Exit → Act → World → Prop) : Nat → Array Bool → Act → World → Prop
  | 0, listed, a, w => Region.ready .any ops listed = [] ∧ Q .normal a w
  | fuel + 1, listed, a, w =>
    (Region.ready .any ops listed = [] → Q .normal a w) ∧
    ∀ i ∈ Region.ready .any ops listed, wpOp P ops Q i (fun a' w' => ((early ops q i = true ∧ C w) → C w') ∧ wpC P ops C q Q fuel (listed.setIfInBounds i true) a' w') a w

theorem wpC_any : ∀ (fuel : Nat) (listed : Array Bool) (a : Act) (w : World), wpC P ops C q Q fuel listed a w → wpAny P .any ops Q fuel listed a w := by
  intro fuel
  induction fuel with
  | zero => intro listed a w h; exact h
  | succ fuel ih =>
    intro listed a w h
    exact ⟨h.1, fun i hi => wpOp_mono (fun a' w' h' => ih _ _ _ h'.2) (h.2 i hi)⟩

/-- What an operation yields in each world of the class (of each, if it is none that reads). -/
def YieldsC (P : Program) (ops : Array Oper) (C : World → Prop) (r : Bool) (o : Oper) (v : Value) (a : Act) : Prop :=
  (Region.wanted o (yielded ops a.tmps) = true ∧ ∀ w, (r = true → C w) → (execOp a.eval o).run P w = .ok (.value v) w) ∨
  (Region.wanted o (yielded ops a.tmps) = false ∧ v = undef)

theorem YieldsC.wpOp {r : Bool} {i : Nat} {o : Oper} {v : Value} (hi : ops[i]? = some o) (hy : YieldsC P ops C r o v a) (hC : r = true → C w)
    {K : Act → World → Prop} (h : K (a.put o.dst v) w) : wpOp P ops Q i K a w := by
  unfold Go.wpOp
  simp only [hi]
  rcases hy with ⟨hw, hv⟩ | ⟨hw, rfl⟩
  · simp only [hw, if_true, Oper.wp, hv w hC, Oper.upon]; exact .inl h
  · simp only [hw, Bool.false_eq_true, if_false]; exact h

theorem YieldsC.of_same {r : Bool} {o : Oper} {v : Value} {a a' : Act} (hy : YieldsC P ops C r o v a) (he : execOp a'.eval o = execOp a.eval o)
    (hw : Region.wanted o (yielded ops a'.tmps) = Region.wanted o (yielded ops a.tmps)) : YieldsC P ops C r o v a' := by
  unfold YieldsC at *
  rw [he, hw]
  exact hy

theorem wpOp_putC {r : Bool} {j : Nat} {oi oj : Oper} {v : Value} (hj : ops[j]? = some oj) (hap : oi.apart ops oj = true)
    (hsi : ∀ cs b, oi.op ≠ .select cs b) (hsj : ∀ cs b, oj.op ≠ .select cs b)
    (hQ : ∀ c a w, Q (.panic c) (a.put oi.dst v) w → Q (.panic c) a w) {K : Act → World → Prop}
    (hy : YieldsC P ops C r oi v a) (h : wpOp P ops Q j K (a.put oi.dst v) w) :
    wpOp P ops Q j (fun a' w' => YieldsC P ops C r oi v a' ∧ K (a'.put oi.dst v) w') a w := by
  obtain ⟨h1, h2, h3⟩ := Oper.apart_spec hap
  have keep : ∀ (a : Act), YieldsC P ops C r oi v a → ∀ u, YieldsC P ops C r oi v (a.put oj.dst u) := fun a hy u =>
    hy.of_same (execOp_put oi hsi a oj.dst u h3) (wanted_put oi a oj.dst u h3)
  have keepD : ∀ d, YieldsC P ops C r oi v { a with defers := d :: a.defers } := fun d => hy.of_same rfl rfl
  unfold Go.wpOp at *
  simp only [hj] at *
  rw [wanted_put oj a oi.dst v h1] at h
  split
  · rename_i hw
    simp only [hw, if_true] at h
    rcases h with h | ⟨hasks, hlets⟩
    case inr => exact .inr ⟨by unfold Oper.asks at *; rw [execOp_put oj hsj a oi.dst v h1] at hasks; exact hasks, hlets⟩
    refine .inl ?_
    unfold Oper.wp at *
    rw [execOp_put oj hsj a oi.dst v h1] at h
    generalize (execOp a.eval oj).run P w = r' at *
    cases r' with
    | ok n w' =>
      cases n <;> simp only [Oper.upon] at h ⊢
      case value u => exact ⟨keep a hy u, by rw [← Act.put_comm a v u h2]; exact h⟩
      case skip => exact ⟨keep a hy _, by rw [← Act.put_comm a v undef h2]; exact h⟩
      case defer d =>
        refine ⟨keep _ (keepD d) _, ?_⟩
        rw [← Act.put_comm _ v undef h2, ← Act.put_defers]
        exact h
      case enter f args =>
        refine Calls.mono h fun e w'' he => ?_
        cases e with
        | returned u => exact ⟨keep a hy u, by rw [← Act.put_comm a v u h2]; exact he⟩
        | panicked c => exact hQ _ _ _ he
        | outgrown => exact he
      case row row args => exact Rows.mono h fun u w'' he => ⟨keep a hy u, by rw [← Act.put_comm a v u h2]; exact he⟩
    | halt x w' =>
      cases x <;> simp only [Oper.upon] at h ⊢
      case panic u => exact hQ _ _ _ h
  · rename_i hw
    simp only [hw] at h
    exact ⟨keep a hy _, by rw [← Act.put_comm a v undef h2]; exact h⟩

theorem wpC_first {i : Nat} {oi : Oper} {v : Value} (hi : ops[i]? = some oi) (hsel : ∀ (j : Nat) (o : Oper) cs b, ops[j]? = some o → o.op ≠ .select cs b)
    (hQ : ∀ c a w, Q (.panic c) (a.put oi.dst v) w → Q (.panic c) a w) :
    ∀ (fuel : Nat) (listed : Array Bool) (a : Act) (w : World),
      (∀ j oj, ops[j]? = some oj → j ≠ i → listed.getD j true = false → (∀ e ∈ oj.after, Region.binds .any e = true → e.on ≠ i) → oi.apart ops oj = true) →
      i ∈ Region.ready .any ops listed → YieldsC P ops C (q i) oi v a → (q i = true → C w) →
      wpC P ops C q Q fuel (listed.setIfInBounds i true) (a.put oi.dst v) w → wpC P ops C q Q (fuel + 1) listed a w := by
  intro fuel
  have hlt : i < ops.size := (Array.getElem?_eq_some_iff.1 hi).1
  induction fuel with
  | zero =>
    intro listed a w _ hr hy hC H
    refine ⟨fun h => (by rw [h] at hr; cases hr), fun j hj => ?_⟩
    by_cases hji : j = i
    · subst hji; exact hy.wpOp hi hC ⟨fun h => h.2, H⟩
    · have := ready_mono hj hji
      rw [H.1] at this
      cases this
  | succ fuel ih =>
    intro listed a w hfree hr hy hC H
    refine ⟨fun h => (by rw [h] at hr; cases hr), fun j hj => ?_⟩
    by_cases hji : j = i
    · subst hji; exact hy.wpOp hi hC ⟨fun h => h.2, H⟩
    · have h1 := H.2 j (ready_mono hj hji)
      obtain ⟨hjun, oj, hoj, hall⟩ := mem_ready.1 hj
      have hnot : ∀ e ∈ oj.after, Region.binds .any e = true → e.on ≠ i := fun e he hb heq => by
        have h1 := hall e he hb
        have h0 := (mem_ready.1 hr).1
        rw [heq] at h1
        rcases Nat.lt_or_ge i listed.size with h' | h'
        · simp [h'] at h0 h1; rw [h0] at h1; cases h1
        · simp [Array.getElem?_eq_none h'] at h1
      have hearly : q i = true → early ops q j = true := fun hq => by
        unfold early
        simp only [hoj, List.any_eq_true, List.mem_range, Bool.and_eq_true, Bool.not_eq_true']
        refine ⟨i, hlt, hq, ?_⟩
        rw [Array.any_eq_false]
        intro k hk hb
        simp only [Bool.and_eq_true, beq_iff_eq] at hb
        exact hnot _ (Array.getElem_mem hk) hb.1 hb.2
      have h2 := wpOp_putC hoj (hfree j oj hoj hji hjun hnot) (fun cs b => hsel i oi cs b hi) (fun cs b => hsel j oj cs b hoj) hQ hy h1
      have hfree' : ∀ k ok, ops[k]? = some ok → k ≠ i → (listed.setIfInBounds j true).getD k true = false →
          (∀ e ∈ ok.after, Region.binds .any e = true → e.on ≠ i) → oi.apart ops ok = true := fun k ok hk hki hun hno => by
        refine hfree k ok hk hki ?_ hno
        by_cases hjk : j = k
        · subst hjk; exact hjun
        · rw [getD_set_ne true hjk] at hun; exact hun
      refine wpOp_mono (fun a' w' h3 => ⟨h3.2.1, ih (listed.setIfInBounds j true) a' w' hfree' (ready_mono hr (Ne.symm hji)) h3.1 (fun hq => h3.2.1 ⟨hearly hq, hC hq⟩) ?_⟩) h2
      rw [Array.setIfInBounds_comm _ _ hji]
      exact h3.2.2

/-! ### the plan -/
inductive Sg where
  | done
  | take (i : Nat) (k : Sg)
  | only (i : Nat) (k : Sg)
  | alt (i : Nat) (k r : Sg)
  | nil

def Sg.okR (ops : Array Oper) : Sg → Option (List Nat) → Nat → Array Bool → Bool
  | .done, none, _, listed => (Region.ready .any ops listed).isEmpty
  | .take i k, none, fuel + 1, listed => Region.free .any ops listed i && (Region.ready .any ops listed).contains i && k.okR ops none fuel (listed.setIfInBounds i true)
  | .only i k, none, fuel + 1, listed => (match Region.ready .any ops listed with | [j] => Nat.beq j i | _ => false) && k.okR ops none fuel (listed.setIfInBounds i true)
  | .alt i k r, none, fuel + 1, listed => (match Region.ready .any ops listed with | j :: js => Nat.beq j i && r.okR ops (some js) (fuel + 1) listed | [] => false) && k.okR ops none fuel (listed.setIfInBounds i true)
  | .alt i k r, some (j :: js), fuel + 1, listed => Nat.beq j i && r.okR ops (some js) (fuel + 1) listed && k.okR ops none fuel (listed.setIfInBounds i true)
  | .nil, some [], _, _ => true
  | _, _, _, _ => false
def Sg.ok (ops : Array Oper) (g : Sg) (fuel : Nat) (listed : Array Bool) : Bool := g.okR ops none fuel listed

def wpSg (P : Program) (l : List Oper) (C : World → Prop) (q : Nat → Bool) (Q : Exit → Act → World → Prop) : Sg → Act → World → Prop
  | .done, a, w => Q .normal a w
  | .take i k, a, w => ∃ v oi, nth l i = some oi ∧ YieldsC P l.toArray C (q i) oi v a ∧ (q i = true → C w) ∧ wpSg P l C q Q k (a.put oi.dst v) w
  | .only i k, a, w => ∃ oi, nth l i = some oi ∧ wpList P l.toArray (Exit.then (fun a' w' => ((early l.toArray q i = true ∧ C w) → C w') ∧ wpSg P l C q Q k a' w') Q) [oi] a w
  | .alt i k r, a, w => (∃ oi, nth l i = some oi ∧ wpList P l.toArray (Exit.then (fun a' w' => ((early l.toArray q i = true ∧ C w) → C w') ∧ wpSg P l C q Q k a' w') Q) [oi] a w) ∧ wpSg P l C q Q r a w
  | .nil, _, _ => True

theorem wpOp_of_list {i : Nat} {oi : Oper} {K : Act → World → Prop} (hi : ops[i]? = some oi) (h : wpList P ops (Exit.then K Q) [oi] a w) (hout : ∀ a w, Exit.then K Q .outgrown a w → Q .outgrown a w) : wpOp P ops Q i K a w := by
  unfold Go.wpOp
  simp only [hi]
  unfold wpList at h
  have e : (wpList P ops (Exit.then K Q) []) = K := by funext a w; rfl
  rw [e] at h
  have hup : ∀ r : Result Next, Oper.upon P oi a K (Exit.then K Q) r → Oper.upon P oi a K Q r := by
    intro r hr
    cases r with
    | ok n w' =>
      cases n <;> simp only [Oper.upon] at hr ⊢ <;> try exact hr
    | halt x w' => cases x <;> simp only [Oper.upon] at hr ⊢ <;> exact hr
  split
  · rename_i hw
    simp only [hw, if_true] at h
    rcases h with h | ⟨h1, a', w', h2⟩
    · exact .inl (hup _ h)
    · exact .inr ⟨h1, a', w', hout _ _ h2⟩
  · rename_i hw
    simp only [hw] at h
    exact h

theorem wpC_of_sg {l : List Oper} (hs : Region.noSelect l.toArray = true) (hQ : ∀ c dst v a w, Q (.panic c) (a.put dst v) w → Q (.panic c) a w) :
    ∀ (g : Sg), (∀ (fuel : Nat) (listed : Array Bool) (a : Act) (w : World), g.okR l.toArray none fuel listed = true → wpSg P l C q Q g a w → wpC P l.toArray C q Q fuel listed a w) ∧
      (∀ (js : List Nat) (fuel : Nat) (listed : Array Bool) (a : Act) (w : World), g.okR l.toArray (some js) (fuel + 1) listed = true → wpSg P l C q Q g a w →
        ∀ i ∈ js, wpOp P l.toArray Q i (fun a' w' => ((early l.toArray q i = true ∧ C w) → C w') ∧ wpC P l.toArray C q Q fuel (listed.setIfInBounds i true) a' w') a w) := by
  have hop : ∀ {i : Nat} {oi : Oper}, nth l i = some oi → l.toArray[i]? = some oi := fun h => by rw [nth_eq] at h; simpa using h
  intro g
  induction g with
  | done =>
    refine ⟨fun fuel listed a w hok h => ?_, fun js fuel listed a w hok => by cases js <;> simp [Sg.okR] at hok⟩
    have hr : Region.ready .any l.toArray listed = [] := by
      cases fuel <;> simpa [Sg.okR] using hok
    cases fuel with
    | zero => exact ⟨hr, h⟩
    | succ fuel => exact ⟨fun _ => h, by rw [hr]; simp⟩
  | nil =>
    refine ⟨fun fuel listed a w hok => by cases fuel <;> simp [Sg.okR] at hok, fun js fuel listed a w hok _ i hi => ?_⟩
    cases js with
    | nil => simp at hi
    | cons x xs => simp [Sg.okR] at hok
  | take i k ih =>
    refine ⟨fun fuel listed a w hok h => ?_, fun js fuel listed a w hok => by cases js <;> simp [Sg.okR] at hok⟩
    cases fuel with
    | zero => simp [Sg.okR] at hok
    | succ fuel =>
      simp only [Sg.okR, Bool.and_eq_true] at hok
      obtain ⟨v, oi, hi, hy, hC, hk⟩ := h
      exact wpC_first (hop hi) (Region.noSelect_spec hs) (fun c a w => hQ c _ _ a w) fuel listed a w (Region.free_spec (hop hi) hok.1.1) (by simpa using hok.1.2) hy hC (ih.1 _ _ _ _ hok.2 hk)
  | only i k ih =>
    refine ⟨fun fuel listed a w hok h => ?_, fun js fuel listed a w hok => by cases js <;> simp [Sg.okR] at hok⟩
    cases fuel with
    | zero => simp [Sg.okR] at hok
    | succ fuel =>
      simp only [Sg.okR, Bool.and_eq_true] at hok
      obtain ⟨oi, hi, hk⟩ := h
      obtain ⟨hr, hk'⟩ := hok
      cases hre : Region.ready .any l.toArray listed with
      | nil => simp [hre] at hr
      | cons x xs =>
        cases xs with
        | cons y ys => simp [hre] at hr
        | nil =>
          simp only [hre] at hr
          have e : x = i := Nat.eq_of_beq_eq_true hr
          subst e
          refine ⟨fun h => (by rw [hre] at h; cases h), fun j hj => ?_⟩
          rw [hre] at hj
          have : j = x := by simpa using hj
          subst this
          exact wpOp_mono (fun a' w' h' => ⟨h'.1, ih.1 _ _ _ _ hk' h'.2⟩) (wpOp_of_list (hop hi) hk (fun _ _ h => h))
  | alt i k r ih1 ih2 =>
    have step : ∀ (fuel : Nat) (listed : Array Bool) (a : Act) (w : World), k.okR l.toArray none fuel (listed.setIfInBounds i true) = true → wpSg P l C q Q (.alt i k r) a w →
        wpOp P l.toArray Q i (fun a' w' => ((early l.toArray q i = true ∧ C w) → C w') ∧ wpC P l.toArray C q Q fuel (listed.setIfInBounds i true) a' w') a w := by
      intro fuel listed a w hok h
      obtain ⟨⟨oi, hi, hk⟩, _⟩ := h
      exact wpOp_mono (fun a' w' h' => ⟨h'.1, ih1.1 _ _ _ _ hok h'.2⟩) (wpOp_of_list (hop hi) hk (fun _ _ h => h))
    refine ⟨fun fuel listed a w hok h => ?_, fun js fuel listed a w hok h j hj => ?_⟩
    · cases fuel with
      | zero => simp [Sg.okR] at hok
      | succ fuel =>
        simp only [Sg.okR, Bool.and_eq_true] at hok
        obtain ⟨hr, hk⟩ := hok
        cases hre : Region.ready .any l.toArray listed with
        | nil => simp [hre] at hr
        | cons x xs =>
          simp only [hre, Bool.and_eq_true] at hr
          have e : x = i := Nat.eq_of_beq_eq_true hr.1
          subst e
          refine ⟨fun h => (by rw [hre] at h; cases h), fun j hj => ?_⟩
          rw [hre] at hj
          rcases List.mem_cons.mp hj with rfl | hj
          · exact step fuel listed a w hk h
          · exact ih2.2 xs fuel listed a w hr.2 h.2 j hj
    · cases js with
      | nil => simp at hj
      | cons x xs =>
        simp only [Sg.okR, Bool.and_eq_true] at hok
        have e : x = i := Nat.eq_of_beq_eq_true hok.1.1
        subst e
        rcases List.mem_cons.mp hj with rfl | hj
        · exact step fuel listed a w hok.2 h
        · exact ih2.2 xs fuel listed a w hok.1.2 h.2 j hj

/-! ### the posts that a frame's values do not matter to, at a panic -/
def PanicOk (Q : Exit → Act → World → Prop) : Prop := ∀ c dst v a w, Q (.panic c) (Act.put a dst v) w → Q (.panic c) a w
theorem panic_then {K : Act → World → Prop} (h : PanicOk Q) : PanicOk (Exit.then K Q) := h
theorem panic_block {i : Nat} (h : PanicOk Q) : PanicOk (Exit.inBlock i Q) := h
theorem panic_body {fn : Func} {R : Ending → World → Prop} : PanicOk (bodyPost P fn R) := by
  intro c dst v a w h
  refine ⟨?_, h.2⟩
  have := h.1
  cases dst <;> exact this

theorem panic_false : PanicOk (fun _ _ _ => False) := fun _ _ _ _ _ h => h

/-- A piece of code that comes to its end: what holds there. -/
theorem r_cut {c : Code} (J : Act → World → Prop) (h1 : c.wp P (Exit.then J (fun _ _ _ => False)) a w) (h2 : ∀ a w, J a w → Q .normal a w) : c.wp P Q a w :=
  Go.wp_mono h1 fun e a w h => by
    cases e <;> first | exact h2 _ _ h | exact h.elim

/-- The facts of a list, wherever they hold. -/
def Has (M : List Asrt) (w : World) : Prop := ∃ M', (∀ A, In M A → In M' A) ∧ St w M'
theorem St.has {M : List Asrt} (h : St w M) : Has M w := ⟨M, fun _ h => h, h⟩
theorem Has.cell {M : List Asrt} {b : Nat} {T : TypeId} {c : List Value} (h : Has M w) (hi : In M (blkA b T c)) {o : Nat} {v : Value} (hv : c[o]? = some v) : w.cell? ⟨b, o, none⟩ = some v :=
  let ⟨_, h1, h2⟩ := h; h2.cell (h1 _ hi) hv
theorem Has.cellS {M : List Asrt} {sz b o m c : Nat} {cs : List Value} (h : Has M w) (hi : In M (slA sz (.slice (some ⟨b, o, none⟩) m c) cs)) {j : Nat} {v : Value} (hv : cs[j]? = some v) : w.cell? ⟨b, o + j, none⟩ = some v :=
  let ⟨_, h1, h2⟩ := h; h2.cellS (h1 _ hi) hv
theorem Has.get {M : List Asrt} {A : Asrt} (h : Has M w) (hi : In M A) : A.p w := let ⟨_, h1, h2⟩ := h; h2.get (h1 _ hi)

theorem r_draw {id : Nat} {l : List Oper} {M : List Asrt} (g : Sg) (q : Nat → Bool) (hm : P.follows .mixedOrders = true) (hs : Region.noSelect l.toArray = true) (hg : g.ok l.toArray l.length (Array.replicate l.length false) = true) (hp : PanicOk Q)
    (hF : Fr n ds a F) (hS : St w M) (h : ∀ w, Fr n ds a F → St w M → wpSg P l (Has M) q Q g a w) : (Code.region id l.toArray true).wp P Q a w := by
  refine wp_region_any hm (wpC_any _ _ _ _ ((wpC_of_sg (C := Has M) (q := q) hs hp g).1 _ _ _ _ ?_ (h _ hF ?_)))
  · simpa [Sg.ok] using hg
  · exact hS.still ⟨rfl, rfl, rfl, Nat.le_refl _⟩ (fun _ _ => rfl)

theorem sg_done {l : List Oper} (h : Q .normal a w) : wpSg P l C q Q .done a w := h
/-- What an operation yields in each world of the class. -/
def AllW (P : Program) (C : World → Prop) (b : Bool) (F : List (Nat × Value)) (op : Op) (ty : TypeId) (v : Value) : Prop := ∀ w', (b = true → C w') → RunV P F op ty w' v
def NeedC (C : World → Prop) (b : Bool) (w : World) : Prop := b = true → C w
theorem sg_take {l : List Oper} {i : Nat} {k : Sg} {op : Op} {v : Value} (hF : Fr n ds a F) (hi : nth l i = some ⟨some d, op, ty, pos, after, none⟩)
    (hr : AllW P C (q i) F op ty v) (hC : NeedC C (q i) w) (hd : dstOk n (some d) = true)
    (h : NextF n ds ((d, v) :: F) (fun a' => wpSg P l C q Q k a' w)) : wpSg P l C q Q (.take i k) a w :=
  ⟨v, _, hi, .inl ⟨by simp [Region.wanted], fun w' hw' => hr w' hw' a.eval (fun _ _ hx => hF.eval hx) _ _ _ _⟩, hC, h _ (hF.put (some d) v hd)⟩
theorem sg_only {l : List Oper} {i : Nat} {k : Sg} {oi : Oper} (hi : nth l i = some oi)
    (h : wpList P l.toArray (Exit.then (fun a' w' => ((early l.toArray q i = true ∧ C w) → C w') ∧ wpSg P l C q Q k a' w') Q) [oi] a w) : wpSg P l C q Q (.only i k) a w := ⟨_, hi, h⟩
theorem sg_alt {l : List Oper} {i : Nat} {k r : Sg} {oi : Oper} (hi : nth l i = some oi)
    (h : wpList P l.toArray (Exit.then (fun a' w' => ((early l.toArray q i = true ∧ C w) → C w') ∧ wpSg P l C q Q k a' w') Q) [oi] a w)
    (h' : wpSg P l C q Q r a w) : wpSg P l C q Q (.alt i k r) a w := ⟨⟨_, hi, h⟩, h'⟩
theorem sg_nil {l : List Oper} : wpSg P l C q Q .nil a w := trivial

theorem wanted_of {dst : Option Tmp} {op : Op} {j : Nat} {b : Bool} {oj : Oper} {t : Nat} {v : Value} (hF : Fr n ds a F) (hj : ops[j]? = some oj) (ht : oj.dst = some t) (hv : lk F t = some v) :
    Region.wanted ⟨dst, op, ty, pos, after, some (j, b)⟩ (yielded ops a.tmps) = (match v with | .bool c => c == b | _ => false) := by
  have := hF.get _ _ hv
  rw [Array.getD_eq_getD_getElem?] at this
  simp only [Region.wanted, yielded, hj, ht, Option.bind_some]
  cases h : a.tmps[t]? with
  | none => rw [h] at this; simp at this; subst this; simp [undef]
  | some u => rw [h] at this; simp at this; subst this; cases u <;> simp

/-- A guarded operation: wanted. -/
theorem sg_want {l : List Oper} {i j t : Nat} {b : Bool} {k : Sg} {op : Op} {v : Value} {oj : Oper} (hF : Fr n ds a F) (hi : nth l i = some ⟨some d, op, ty, pos, after, some (j, b)⟩)
    (hj : nth l j = some oj) (ht : oj.dst = some t) (hv : lk F t = some (.bool b))
    (hr : AllW P C (q i) F op ty v) (hC : NeedC C (q i) w) (hd : dstOk n (some d) = true)
    (h : NextF n ds ((d, v) :: F) (fun a' => wpSg P l C q Q k a' w)) : wpSg P l C q Q (.take i k) a w :=
  ⟨v, _, hi, .inl ⟨by rw [wanted_of hF (by rw [nth_eq] at hj; simpa using hj) ht hv]; simp, fun w' hw' => hr w' hw' a.eval (fun _ _ hx => hF.eval hx) _ _ _ _⟩, hC, h _ (hF.put (some d) v hd)⟩
/-- A guarded operation: passed over. -/
theorem sg_pass {l : List Oper} {i j t : Nat} {b : Bool} {k : Sg} {op : Op} {u : Value} {oj : Oper} (hF : Fr n ds a F) (hi : nth l i = some ⟨some d, op, ty, pos, after, some (j, b)⟩)
    (hj : nth l j = some oj) (ht : oj.dst = some t) (hv : lk F t = some u) (hu : (match u with | .bool c => c == b | _ => false) = false) (hC : NeedC C (q i) w) (hd : dstOk n (some d) = true)
    (h : NextF n ds ((d, undef) :: F) (fun a' => wpSg P l C q Q k a' w)) : wpSg P l C q Q (.take i k) a w :=
  ⟨undef, _, hi, .inr ⟨by rw [wanted_of hF (by rw [nth_eq] at hj; simpa using hj) ht hv]; exact hu, rfl⟩, hC, h _ (hF.put (some d) undef hd)⟩
/-- Ahead of a guarded operation: its guard is parted on. -/
theorem sg_part {l : List Oper} {i t : Nat} {k : Sg} {op : Op} {g : Nat × Bool} {p : Prop} {dst : Option Tmp} [Decidable p] {oj : Oper} (hF : Fr n ds a F) (_hi : nth l i = some ⟨dst, op, ty, pos, after, some g⟩) (_hj : nth l g.1 = some oj) (_ht : oj.dst = some t) (hv : lk F t = some (.bool (decide p)))
    (k1 : p → Fr n ds a ((t, .bool true) :: F) → wpSg P l C q Q (.take i k) a w) (k2 : ¬ p → Fr n ds a ((t, .bool false) :: F) → wpSg P l C q Q (.take i k) a w) : wpSg P l C q Q (.take i k) a w := by
  have hcons : ∀ b, lk F t = some (.bool b) → Fr n ds a ((t, .bool b) :: F) := fun b hb => Fr.weak1 hF hF hb
  by_cases hp : p
  · exact k1 hp (hcons true (by rw [hv]; simp [hp]))
  · exact k2 hp (hcons false (by rw [hv]; simp [hp]))

/-! ### the goals' heads (each lemma says what it is given) -/
theorem runv_ {op : Op} {v : Value} (h : RunV P F op ty w v) : RunV P F op ty w v := h
theorem dst_ {t : Option Tmp} (h : dstOk n t = true) : dstOk n t = true := h
theorem allw_ {b : Bool} {op : Op} {v : Value} (h : ∀ w', (b = true → C w') → RunV P F op ty w' v) : AllW P C b F op ty v := h
theorem needc_ {b : Bool} (h : b = true → C w) : NeedC C b w := h
theorem only_ {i : Nat} {p : Prop} (h : (early ops q i = true ∧ C w) → C w') (h' : p) : ((early ops q i = true ∧ C w) → C w') ∧ p := ⟨h, h'⟩
theorem draw_ {id : Nat} {l : List Oper} (h : (Code.region id l.toArray true).wp P Q a w) : (Code.region id l.toArray true).wp P Q a w := h
theorem take_ {l : List Oper} {i : Nat} {k : Sg} (h : wpSg P l C q Q (.take i k) a w) : wpSg P l C q Q (.take i k) a w := h
theorem early_no {j : Nat} {b : Bool} (h : early ops q j = b) (hb : b = false := by rfl) : (early ops q j = true ∧ C w) → C w' := fun hh => by rw [h, hb] at hh; cases hh.1

end Go.Bz
