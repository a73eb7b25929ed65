/- The rules of the operations that read, write and make memory. No condition: a library of lemmas. -/
import Derived.Test.YtamghofogkdafaaRules
set_option linter.all false
namespace Go.Bz

variable {n : Nat} {ds : List Deferred} {a : Act} {F : List (Nat × Value)} {P : Program} {ops : Array Oper} {Q : Exit → Act → World → Prop} {rest : List Oper} {w w' : World}
variable {d : Nat} {ty : TypeId} {pos : String} {after : Array Edge} {M R : List Asrt}

theorem add_none (b o j : Nat) : (⟨b, o, none⟩ : Addr).add j = ⟨b, o + j, none⟩ := by unfold Addr.add; split <;> simp_all

/-! ### what the tables say -/
def nth {α : Type} : List α → Nat → Option α
  | [], _ => none
  | x :: _, 0 => some x
  | _ :: xs, i + 1 => nth xs i
theorem nth_eq {α : Type} (l : List α) : ∀ i, nth l i = l[i]? := by
  induction l with
  | nil => intro i; simp [nth]
  | cons x l ih => intro i; cases i <;> simp [nth, ih]

def fieldB (P : Program) (s i : Nat) : Option (Nat × TypeId) :=
  match P.underlying s with
  | some (.struct fs) => match nth fs.toList i with
    | some ⟨_, t, off, _, _, _, _⟩ => some (off, t)
    | none => none
  | _ => none
def sizeB (P : Program) (t : TypeId) : Option Nat := match P.info? t with | some ⟨_, _, sz, _, _, _, _, _, _, _⟩ => some sz | none => none
def bytesB (P : Program) (t : TypeId) : Option Nat := match P.info? t with | some ⟨_, _, _, by_, _, _, _, _, _, _⟩ => some by_ | none => none
/-- An element's zero value, its cells and its bytes. -/
def elemB (P : Program) (t : TypeId) : Option (Value × Nat × Nat) := match P.info? t with | some ⟨_, _, sz, by_, _, _, _, some z, _, _⟩ => some (z, sz, by_) | _ => none
def aggB (P : Program) (t : TypeId) : Option Bool := match P.underlying t with | some (.struct _) => some true | some (.array _ _) => some true | some _ => some false | none => none
def sliceB (P : Program) (t : TypeId) : Option TypeId := match P.underlying t with | some (.slice e) => some e | _ => none
def arrayB (P : Program) (t : TypeId) : Option (Nat × TypeId) := match P.underlying t with | some (.array m e) => some (m, e) | _ => none

theorem sizeB_run {t sz : Nat} (h : sizeB P t = some sz) : (sizeOf t).run P w = .ok sz w := by
  unfold sizeB at h
  cases hi : P.info? t with
  | none => simp [hi] at h
  | some i => rw [hi] at h; cases i; simp at h; subst h; simp [sizeOf, typeInfo, hi]
theorem sizeB_info {t sz : Nat} (h : sizeB P t = some sz) : ∃ i, P.info? t = some i ∧ i.size = sz := by
  unfold sizeB at h
  cases hi : P.info? t with
  | none => simp [hi] at h
  | some i => rw [hi] at h; cases i; simp at h; exact ⟨_, rfl, h⟩
theorem bytesB_info {t sz : Nat} (h : bytesB P t = some sz) : ∃ i, P.info? t = some i ∧ i.bytes = sz := by
  unfold bytesB at h
  cases hi : P.info? t with
  | none => simp [hi] at h
  | some i => rw [hi] at h; cases i; simp at h; exact ⟨_, rfl, h⟩
theorem elemB_info {t sz bytes : Nat} {z : Value} (h : elemB P t = some (z, sz, bytes)) : ∃ i, P.info? t = some i ∧ i.zero = some z ∧ i.size = sz ∧ i.bytes = bytes := by
  unfold elemB at h
  split at h
  · rename_i hi
    simp at h
    exact ⟨_, hi, congrArg some h.1, h.2.1, h.2.2⟩
  · cases h
theorem aggB_run {t : Nat} {b : Bool} (h : aggB P t = some b) : (isAgg t).run P w = .ok b w := by
  unfold aggB at h
  cases hi : P.underlying t with
  | none => simp [hi] at h
  | some i => rw [hi] at h; cases i <;> simp at h <;> subst h <;> simp [isAgg, run_underlying hi]
theorem sliceB_spec {t e : TypeId} (h : sliceB P t = some e) : P.underlying t = some (.slice e) := by
  unfold sliceB at h; split at h <;> simp_all
theorem arrayB_spec {t m e : Nat} (h : arrayB P t = some (m, e)) : P.underlying t = some (.array m e) := by
  unfold arrayB at h; split at h <;> simp_all

/-! ### reading -/
theorem St.cell {b : Nat} {T : TypeId} {c : List Value} (h : St w M) (hi : In M (blkA b T c)) {o : Nat} {v : Value} (hv : c[o]? = some v) : w.cell? ⟨b, o, none⟩ = some v := by
  have hb : w.heap[b]? = some (.cells c.toArray T (0, 0)) := (h.get hi).1
  simp [World.cell?, hb, hv]
theorem slP.cell {sz b o m c : Nat} {cs : List Value} (h : slP sz (.slice (some ⟨b, o, none⟩) m c) cs w) {j : Nat} {v : Value} (hv : cs[j]? = some v) : w.cell? ⟨b, o + j, none⟩ = some v := by
  rcases h with ⟨h, _⟩ | ⟨b', o', m', c', cells, T, fr, hv', _, _, hb, hc, _⟩
  · cases h
  · simp only [Value.slice.injEq, Option.some.injEq, Addr.mk.injEq, and_true] at hv'
    obtain ⟨⟨rfl, rfl⟩, rfl, rfl⟩ := hv'
    simp [World.cell?, hb, hc j v hv]
theorem St.cellS {sz b o m c : Nat} {cs : List Value} (h : St w M) (hi : In M (slA sz (.slice (some ⟨b, o, none⟩) m c) cs)) {j : Nat} {v : Value} (hv : cs[j]? = some v) : w.cell? ⟨b, o + j, none⟩ = some v :=
  slP.cell (h.get hi) hv
theorem St.cellR {T sz b m c : Nat} {cs : List Value} (h : St w M) (hi : In M (rowA T sz (.slice (some ⟨b, 0, none⟩) m c) cs)) {j : Nat} {v : Value} (hv : cs[j]? = some v) : w.cell? ⟨b, j, none⟩ = some v := by
  have := slP.cell (rowP.sl (h.get hi)) hv
  simpa using this

theorem rv_load1 {t : TypeId} {x : Operand} {ad : Addr} {v : Value} (hx : evo F x = some (.pointer (some ad))) (hg : aggB P t = some false) (hc : w.cell? ad = some v) : RunV P F (.load t x) ty w (v) := fun ρ hρ _ _ _ _ => by simp [execOp, hρ _ _ hx, Instr.loadAt, Instr.sureAddr, loadVar, aggB_run hg, hc]

theorem rv_loadN {t : TypeId} {x : Operand} {b o : Nat} {cs : List Value} (hx : evo F x = some (.pointer (some ⟨b, o, none⟩))) (hg : aggB P t = some true) (hs : sizeB P t = some cs.length)
    (hc : ∀ j u, cs[j]? = some u → w.cell? ⟨b, o + j, none⟩ = some u) : RunV P F (.load t x) ty w (.agg cs.toArray) := fun ρ hρ _ _ _ _ => by
    have hr := run_loadCells_list (P := P) w ⟨b, o, none⟩ cs (fun j u hj => by rw [add_none]; exact hc j u hj)
    simp [execOp, hρ _ _ hx, Instr.loadAt, Instr.sureAddr, loadVar, aggB_run hg, sizeB_run hs, hr]

theorem slP.one {sz : Nat} {v : Value} {cs : List Value} (h : slP sz v cs w) : ∀ u ∈ cs, u.oneCell' = true := by
  rcases h with ⟨_, rfl⟩ | ⟨_, _, _, _, _, _, _, _, _, _, _, _, h1⟩
  · simp
  · exact h1
theorem St.oneB {b : Nat} {T : TypeId} {c : List Value} (h : St w M) (hi : In M (blkA b T c)) : ∀ u ∈ c, u.oneCell' = true := (h.get hi).2

/-- A whole variable in a block of one's own. -/
theorem rv_loadA {t : TypeId} {x : Operand} {b m : Nat} {T : TypeId} {cs : List Value} (hx : evo F x = some (.pointer (some ⟨b, 0, none⟩))) (hg : aggB P t = some true) (hS : St w M) (hi : In M (blkA b T cs)) (hs : sizeB P t = some m) (hl : cs.length = m) :
    RunV P F (.load t x) ty w (.agg cs.toArray) :=
  rv_loadN hx hg (by rw [hs, hl]) (fun j u hj => by rw [Nat.zero_add]; exact hS.cell hi hj)

/-! ### addresses -/
theorem fieldB_spec {s i off : Nat} {t : TypeId} (h : fieldB P s i = some (off, t)) : ∃ fs f, P.underlying s = some (.struct fs) ∧ fs[i]? = some f ∧ f.offset = off ∧ f.type = t := by
  unfold fieldB at h
  cases hu : P.underlying s with
  | none => simp [hu] at h
  | some dd =>
    rw [hu] at h
    cases dd <;> simp at h
    rename_i fs
    rw [nth_eq] at h
    cases hn : fs.toList[i]? with
    | none => rw [hn] at h; simp at h
    | some f =>
      rw [hn] at h; simp at h
      exact ⟨fs, f, rfl, by simpa using hn, h.1, h.2⟩

theorem rv_nilCheck {x : Operand} {ad : Addr} (hx : evo F x = some (.pointer (some ad))) : RunV P F (.nilCheck x) ty w (.pointer (some ad)) := fun ρ hρ _ _ _ _ => by simp [execOp, hρ _ _ hx]

theorem rv_field {s i : Nat} {x : Operand} {b o off sz o' : Nat} {t : TypeId} (hx : evo F x = some (.pointer (some ⟨b, o, none⟩))) (hf : fieldB P s i = some (off, t)) (hs : sizeB P t = some sz) (hz : Nat.beq sz 0 = false) (ho : o + off = o') : RunV P F (.fieldAddr s x i) ty w (.pointer (some ⟨b, o', none⟩)) := fun ρ hρ _ _ _ _ => by
    obtain ⟨fs, f, h1, h2, h3, h4⟩ := fieldB_spec hf
    have hz' : sz ≠ 0 := fun e => by subst e; simp at hz
    subst h4
    simp [execOp, hρ _ _ hx, Instr.fieldAt, run_underlying h1, h2, Instr.sureAddr, fieldPlace, sizeB_run hs, hz', h3, add_none, ho]

theorem rv_ixSl {t e : TypeId} {x y : Operand} {b o m c sz o' : Nat} {kk : IntKind} {i : Int} {i' : Nat} (hx : evo F x = some (.slice (some ⟨b, o, none⟩) m c)) (hy : evo F y = some (.int kk i)) (ht : sliceB P t = some e) (hs : sizeB P e = some sz)
    (h0 : i = Int.ofNat i') (h1 : i' < m) (ho : o + i' * sz = o') : RunV P F (.indexAddr t x y) ty w (.pointer (some ⟨b, o', none⟩)) := fun ρ hρ _ _ _ _ => by
    subst h0
    simp [execOp, hρ _ _ hx, hρ _ _ hy, Instr.indexAt, asIntOf, run_underlying (sliceB_spec ht), h1, sizeB_run hs, add_none, ho]

theorem rv_ixAr {t e : TypeId} {x y : Operand} {b o m sz o' : Nat} {kk : IntKind} {i : Int} {i' : Nat} (hx : evo F x = some (.pointer (some ⟨b, o, none⟩))) (hy : evo F y = some (.int kk i)) (ht : arrayB P t = some (m, e)) (hs : sizeB P e = some sz)
    (h0 : i = Int.ofNat i') (h1 : i' < m) (ho : o + i' * sz = o') : RunV P F (.indexAddr t x y) ty w (.pointer (some ⟨b, o', none⟩)) := fun ρ hρ _ _ _ _ => by
    subst h0
    simp [execOp, hρ _ _ hx, hρ _ _ hy, Instr.indexAt, Instr.sureAddr, asIntOf, run_underlying (arrayB_spec ht), h1, sizeB_run hs, add_none, ho]

theorem ones32 (l : List UInt32) : ∀ u ∈ l.map u32, u.oneCell' = true := by
  intro u hu; obtain ⟨y, _, rfl⟩ := List.mem_map.mp hu; rfl
theorem ones8 (l : List UInt8) : ∀ u ∈ l.map u8, u.oneCell' = true := by
  intro u hu; obtain ⟨y, _, rfl⟩ := List.mem_map.mp hu; rfl
theorem onesAll {l : List Value} (h : l.all Value.oneCell' = true) : ∀ u ∈ l, u.oneCell' = true := List.all_eq_true.mp h

/-! ### writing -/
theorem blk_store {b o : Nat} {T : TypeId} {c : List Value} {v : Value} (h : St w (blkA b T c :: R)) (h1 : v.oneCell' = true) :
    St (w.setCell ⟨b, o, none⟩ v) (blkA b T (c.set o v) :: R) := by
  have hb : w.heap[b]? = some (.cells c.toArray T (0, 0)) := h.head.1
  rw [setCell_eq_setRow w b o c.toArray T (0, 0) v hb]
  refine h.step ⟨rfl, rfl, rfl, by simp [World.setRow]⟩ (fun k _ hk => setRow_other w b k _ hk) ?_ (fun _ hk => .inl hk) (fun _ hk => hk.elim)
  refine ⟨?_, fun u hu => (List.mem_or_eq_of_mem_set hu).elim (h.head.2 u) (fun e => e ▸ h1)⟩
  show (w.setRow b _).heap[b]? = _
  rw [setRow_heap w b _ _ T (0, 0) hb]; simp

theorem r_store1 {t : TypeId} {x y : Operand} {b o : Nat} {T : TypeId} {c : List Value} {v : Value} (hF : Fr n ds a F) (hS : St w M) (hx : evo F x = some (.pointer (some ⟨b, o, none⟩))) (hy : evo F y = some v) (hr : Rm M (blkA b T c) R)
    (hs : sizeB P t = some 1) (h1 : v.oneCell' = true) (ho : o < c.length)
    (k : ∀ a' w', Fr n ds a' F → St w' (blkA b T (c.set o v) :: R) → wpList P ops Q rest a' w') : wpList P ops Q (⟨none, .store t x y, ty, pos, after, none⟩ :: rest) a w := by
  have hS' := hS.front hr
  have hb : w.heap[b]? = some (.cells c.toArray T (0, 0)) := hS'.head.1
  have hc : w.cell? ⟨b, o, none⟩ = some c[o] := by simp [World.cell?, hb, ho]
  have hfz : w.frozen? ⟨b, o, none⟩ = false := by simp [World.frozen?, hb]
  have hcs : v.cells = #[v] := by cases v <;> simp_all [Value.cells, Value.oneCell']
  refine wpList_run_skip (w' := w.setCell ⟨b, o, none⟩ v) rfl ?_ (k _ _ hF (blk_store hS' h1))
  simp only [execOp, hF.eval hx, hF.eval hy, Instr.storeAt, Instr.sureAddr, storeVar, Sem.run_bind, Sem.run_pure, Result.andThen_ok, sizeB_run hs, hcs]
  simp [storeCells, run_store P w _ v _ h1, hc, hfz, add_none]

theorem r_storeN {t : TypeId} {x y : Operand} {b o : Nat} {T : TypeId} {c vs : List Value} (hF : Fr n ds a F) (hS : St w M) (hx : evo F x = some (.pointer (some ⟨b, o, none⟩))) (hy : evo F y = some (.agg vs.toArray)) (hr : Rm M (blkA b T c) R)
    (hs : sizeB P t = some vs.length) (h1 : ∀ u ∈ vs, u.oneCell' = true) (ho : o + vs.length ≤ c.length)
    (k : ∀ a' w', Fr n ds a' F → St w' (blkA b T (c.take o ++ vs ++ c.drop (o + vs.length)) :: R) → wpList P ops Q rest a' w') : wpList P ops Q (⟨none, .store t x y, ty, pos, after, none⟩ :: rest) a w := by
  have hS' := hS.front hr
  have hb : w.heap[b]? = some (.cells c.toArray T (0, 0)) := hS'.head.1
  have hst := run_storeCells_at (P := P) b o T vs 0 c.toArray w hb (by simpa using ho) h1
  simp only [Nat.add_zero] at hst
  refine wpList_run_skip (w' := w.setRow b (c.take o ++ vs ++ c.drop (o + vs.length)).toArray) rfl ?_ (k _ _ hF ?_)
  · simp only [execOp, hF.eval hx, hF.eval hy, Instr.storeAt, Instr.sureAddr, storeVar, Sem.run_bind, Sem.run_pure, Result.andThen_ok, sizeB_run hs, Value.cells]
    simp [hst]
  · refine hS'.step ⟨rfl, rfl, rfl, by simp [World.setRow]⟩ (fun k _ hk => setRow_other w b k _ hk) ⟨?_, fun u hu => ?_⟩ (fun _ hk => .inl hk) (fun _ hk => hk.elim)
    · show (w.setRow b _).heap[b]? = _
      rw [setRow_heap w b _ _ T (0, 0) hb]
    · simp only [List.mem_append] at hu
      rcases hu with (hu | hu) | hu
      · exact hS'.head.2 u (List.mem_of_mem_take hu)
      · exact h1 u hu
      · exact hS'.head.2 u (List.mem_of_mem_drop hu)

/-- A whole variable is written. -/
theorem r_storeA {t : TypeId} {x y : Operand} {b : Nat} {T : TypeId} {c vs : List Value} (hF : Fr n ds a F) (hS : St w M) (hx : evo F x = some (.pointer (some ⟨b, 0, none⟩))) (hy : evo F y = some (.agg vs.toArray)) (hr : Rm M (blkA b T c) R)
    {m : Nat} (hs : sizeB P t = some m) (hm : vs.length = m) (h1 : ∀ u ∈ vs, u.oneCell' = true) (ho : c.length = m)
    (k : ∀ a' w', Fr n ds a' F → St w' (blkA b T vs :: R) → wpList P ops Q rest a' w') : wpList P ops Q (⟨none, .store t x y, ty, pos, after, none⟩ :: rest) a w := by
  have ho : vs.length = c.length := by omega
  refine r_storeN hF hS hx hy hr (by rw [hs, hm]) h1 (by omega) (fun a' w' h1 h2 => k a' w' h1 ?_)
  have e : c.take 0 ++ vs ++ c.drop (0 + vs.length) = vs := by rw [ho]; simp
  rw [e] at h2; exact h2

/-! ### new memory -/
theorem St.alloc {T : TypeId} {c : List Value} (h : St w M) (h1 : ∀ u ∈ c, u.oneCell' = true) : St (w.alloc (.cells c.toArray T)) (blkA w.heap.size T c :: M) := by
  refine h.new ⟨rfl, rfl, rfl, by simp⟩ (fun b hb => heap_alloc_old w (.cells c.toArray T) hb) ⟨heap_alloc_new w (.cells c.toArray T), h1⟩ (fun b hb => ?_) (fun b hb => hb.elim)
  exact Nat.le_of_eq (Eq.symm hb)

theorem r_alloc {T : TypeId} {z : Value} {c : List Value} (hF : Fr n ds a F) (hS : St w M) (hz : ∀ w, (zeroValue T).run P w = .ok z w) (hc : z.cells = c.toArray) (h1 : ∀ u ∈ c, u.oneCell' = true) (hd : dstOk n (some d) = true)
    (k : ∀ a' w' b, Fr n ds a' ((d, .pointer (some ⟨b, 0, none⟩)) :: F) → St w' (blkA b T c :: M) → wpList P ops Q rest a' w') : wpList P ops Q (⟨some d, .alloc T, ty, pos, after, none⟩ :: rest) a w :=
  r_run (w' := w.alloc (.cells c.toArray T)) hF hd (by simp [execOp, Instr.alloc, hz, newVar, newRow, hc]) (fun a' h => k a' _ _ h (hS.alloc h1))

theorem r_box {T : TypeId} {x : Operand} {v : Value} {c : List Value} (hF : Fr n ds a F) (hS : St w M) (hx : evo F x = some v) (hc : v.cells = c.toArray) (h1 : ∀ u ∈ c, u.oneCell' = true) (hd : dstOk n (some d) = true)
    (k : ∀ a' w' b, Fr n ds a' ((d, .pointer (some ⟨b, 0, none⟩)) :: F) → St w' (blkA b T c :: M) → wpList P ops Q rest a' w') : wpList P ops Q (⟨some d, .box T x, ty, pos, after, none⟩ :: rest) a w :=
  r_run (w' := w.alloc (.cells c.toArray T)) hF hd (by simp [execOp, hF.eval hx, Instr.box, newVar, newRow, hc]) (fun a' h => k a' _ _ h (hS.alloc h1))

/-- make of as many elements as it has room for, each one cell. -/
theorem r_make1 {t e : TypeId} {x y : Operand} {j kk : IntKind} {l : Int} {l' : Nat} {z : Value} {bytes : Nat} (hF : Fr n ds a F) (hS : St w M) (hx : evo F x = some (.int j l)) (hy : evo F y = some (.int kk l)) (hl : l = Int.ofNat l') (ht : sliceB P t = some e)
    (hi : elemB P e = some (z, 1, bytes)) (hz : z.oneCell' = true) (hb : bytes * l' ≤ 281474976710656) (h63 : l' ≤ 9223372036854775807) (hd : dstOk n (some d) = true)
    (k : ∀ a' w' b, Fr n ds a' ((d, .slice (some ⟨b, 0, none⟩) l' l') :: F) → St w' (blkA b e (List.replicate l' z) :: M) → wpList P ops Q rest a' w') : wpList P ops Q (⟨some d, .makeSlice t x y, ty, pos, after, none⟩ :: rest) a w := by
  obtain ⟨i, hi1, hi2, hi3, hi4⟩ := elemB_info hi
  subst hl
  have hr := run_make (P := P) w t e i z (sliceB_spec ht) hi1 hi2 j kk l' l' (by omega) (Int.le_refl _) (by rw [hi4, ← Int.natCast_mul]; omega) (by omega)
  have hcs : z.cells = #[z] := by cases z <;> simp_all [Value.cells, Value.oneCell']
  have hm : madeCells z.cells (l' * i.size) = (List.replicate l' z).toArray := by
    rw [hi3, hcs, Nat.mul_one, madeCells]
    apply Array.ext
    · simp
    · intro q h1 h2
      simp [Nat.mod_one]
  simp only [Int.toNat_natCast, hm] at hr
  refine r_run (w' := w.alloc (.cells (List.replicate l' z).toArray e)) hF hd ?_ (fun a' h => k a' _ _ h (hS.alloc (fun u hu => (List.mem_replicate.mp hu).2 ▸ hz)))
  simp [execOp, hF.eval hx, hF.eval hy, hr]

/-! ### parts of slices -/
theorem bounds_run {isS : Bool} {len cap l' h' : Nat} {l h : Int} {k1 k2 : IntKind} (hl : l = Int.ofNat l') (hh : h = Int.ofNat h') (hlh : l' ≤ h') (hhc : h' ≤ cap) :
    (Instr.sliceBounds isS len cap (some (.int k1 l)) (some (.int k2 h)) none).run P w = .ok (l', h', cap) w := by
  subst hl; subst hh
  simp [Instr.sliceBounds, Instr.sliceBound, asIntOf, hhc, hlh]
theorem bounds_lo {isS : Bool} {len cap l' : Nat} {l : Int} {k1 : IntKind} (hl : l = Int.ofNat l') (hlh : l' ≤ len) :
    (Instr.sliceBounds isS len cap (some (.int k1 l)) none none).run P w = .ok (l', len, cap) w := by
  subst hl
  simp [Instr.sliceBounds, Instr.sliceBound, asIntOf, hlh]
theorem bounds_hi {isS : Bool} {len cap h' : Nat} {h : Int} {k1 : IntKind} (hh : h = Int.ofNat h') (hhc : h' ≤ cap) :
    (Instr.sliceBounds isS len cap none (some (.int k1 h)) none).run P w = .ok (0, h', cap) w := by
  subst hh
  simp [Instr.sliceBounds, Instr.sliceBound, asIntOf, hhc]
theorem bounds_no {isS : Bool} {len cap : Nat} :
    (Instr.sliceBounds isS len cap none none none).run P w = .ok (0, len, cap) w := by
  simp [Instr.sliceBounds]
theorem bounds_max {isS : Bool} {len cap h' m' : Nat} {h mx : Int} {k1 k2 : IntKind} (hh : h = Int.ofNat h') (hx : mx = Int.ofNat m') (hm : h' ≤ m') (hhc : m' ≤ cap) :
    (Instr.sliceBounds isS len cap none (some (.int k1 h)) (some (.int k2 mx))).run P w = .ok (0, h', m') w := by
  subst hh; subst hx
  simp [Instr.sliceBounds, Instr.sliceBound, asIntOf, hhc, hm]

def evOpt (F : List (Nat × Value)) : Option Operand → Option (Option Value)
  | none => some none
  | some x => match evo F x with
    | some v => some (some v)
    | none => none
theorem evOpt_map {ρ : Operand → Value} (hρ : ∀ x u, evo F x = some u → ρ x = u) {o : Option Operand} {v : Option Value} (h : evOpt F o = some v) : o.map ρ = v := by
  cases o with
  | none => simp [evOpt] at h; simp [h]
  | some x =>
    simp only [evOpt] at h
    cases hx : evo F x with
    | none => simp [hx] at h
    | some u => rw [hx] at h; simp at h; subst h; simp [hρ _ _ hx]

/-- The part of a slice from l to h, up to m. -/
def subV (sz : Nat) (x : Option Addr) (l h m : Nat) : Value := .slice (if m = l then x else x.map (·.add (l * sz))) (h - l) (m - l)

theorem slP.sub {sz m c l h c' : Nat} {x : Option Addr} {cs : List Value} (hp : slP sz (.slice x m c) cs w) (hlh : l ≤ h) (hhm : h ≤ m) (hc' : h ≤ c') (hcc : c' ≤ c) : slP sz (subV sz x l h c') ((cs.drop (l * sz)).take ((h - l) * sz)) w := by
  rcases hp with ⟨hv, rfl⟩ | ⟨b, o, m', c1, cells, T, fr, hv, hmc, hl, hb, hcs, h1⟩
  · simp only [Value.slice.injEq] at hv
    obtain ⟨rfl, rfl, rfl⟩ := hv
    have e1 : h = 0 := by omega
    have e2 : l = 0 := by omega
    subst e1; subst e2
    have hz : c' = 0 := by omega
    subst hz; exact .inl ⟨by simp [subV], by simp⟩
  · simp only [Value.slice.injEq] at hv
    obtain ⟨rfl, rfl, rfl⟩ := hv
    have hlen : ((cs.drop (l * sz)).take ((h - l) * sz)).length = (h - l) * sz := by
      rw [List.length_take, List.length_drop, hl]
      have : (h - l) * sz ≤ m * sz - l * sz := by rw [← Nat.sub_mul]; exact Nat.mul_le_mul_right _ (by omega)
      omega
    have h1' : ∀ u ∈ (cs.drop (l * sz)).take ((h - l) * sz), u.oneCell' = true := fun u hu => h1 u (List.mem_of_mem_drop (List.mem_of_mem_take hu))
    by_cases e : c' = l
    · have e2 : h = l := by omega
      subst e2
      refine .inr ⟨b, o, 0, 0, cells, T, fr, by simp [subV, e], Nat.le_refl _, by simp, hb, by simp, by simp⟩
    · refine .inr ⟨b, o + l * sz, h - l, c' - l, cells, T, fr, by simp [subV, e, add_none], by omega, hlen, hb, fun j u hj => ?_, h1'⟩
      rw [List.getElem?_take] at hj
      split at hj
      · rw [List.getElem?_drop] at hj
        rw [Nat.add_assoc]; exact hcs _ _ hj
      · cases hj

theorem slice_run {t e : TypeId} {sz m c l h c' : Nat} {x : Option Addr} {lo hi mx : Option Value} (ht : sliceB P t = some e) (hs : sizeB P e = some sz)
    (hb : (Instr.sliceBounds true m c lo hi mx).run P w = .ok (l, h, c') w) : (Instr.sliceAt t (.slice x m c) lo hi mx).run P w = .ok (subV sz x l h c') w := by
  simp [Instr.sliceAt, Instr.slice, run_underlying (sliceB_spec ht), hb, sizeB_run hs, subV]

theorem St.sub {sz m c l h c' : Nat} {x : Option Addr} {cs : List Value} (hS : St w M) (hi : slA sz (.slice x m c) cs ∈ M) (hlh : l ≤ h) (hhm : h ≤ m) (hc' : h ≤ c') (hcc : c' ≤ c) :
    St w (slA sz (subV sz x l h c') ((cs.drop (l * sz)).take ((h - l) * sz)) :: M) := by
  refine hS.know hi (slP.sub (hS.p _ hi) hlh hhm hc' hcc) (fun _ h => h) (fun _ h => h) (fun b hb => ?_)
  obtain ⟨y, m1, c1, hv, rfl⟩ := hb
  unfold subV at hv
  simp only [Value.slice.injEq] at hv
  cases x with
  | none => simp at hv
  | some x =>
    refine ⟨x, m, c, rfl, ?_⟩
    split at hv
    · simp at hv; rw [hv.1]
    · simp at hv; rw [← hv.1]; unfold Addr.add; split <;> rfl

theorem In.sub {sz m c l h c' : Nat} {x : Option Addr} {cs : List Value} (hi : In M (slA sz (.slice x m c) cs)) (hlh : l ≤ h) (hhm : h ≤ m) (hc' : h ≤ c') (hcc : c' ≤ c) :
    In M (slA sz (subV sz x l h c') ((cs.drop (l * sz)).take ((h - l) * sz))) := ⟨fun w hw => slP.sub (hi.1 w hw) hlh hhm hc' hcc⟩

/-- A part of a slice that nobody changes, x[lo:hi]. -/
theorem r_sub {t e : TypeId} {y : Operand} {lo hi mx : Option Operand} {lov hiv mxv : Option Value} {sz m c l h c' : Nat} {x : Option Addr} {cs : List Value} (hF : Fr n ds a F) (hS : St w M) (hy : evo F y = some (.slice x m c)) (hi_ : slA sz (.slice x m c) cs ∈ M)
    (hlo : evOpt F lo = some lov) (hhi : evOpt F hi = some hiv) (hmx : evOpt F mx = some mxv)
    (ht : sliceB P t = some e) (hs : sizeB P e = some sz) (hb : ∀ w, (Instr.sliceBounds true m c lov hiv mxv).run P w = .ok (l, h, c') w)
    (hlh : l ≤ h) (hhm : h ≤ m) (hc' : h ≤ c') (hcc : c' ≤ c) (hd : dstOk n (some d) = true)
    (k : ∀ a' x' c1, Fr n ds a' ((d, .slice x' (h - l) c1) :: F) → St w (slA sz (.slice x' (h - l) c1) ((cs.drop (l * sz)).take ((h - l) * sz)) :: M) → wpList P ops Q rest a' w) : wpList P ops Q (⟨some d, .slice t y lo hi mx, ty, pos, after, none⟩ :: rest) a w := by
  have ev : ∀ {o : Option Operand} {v : Option Value}, evOpt F o = some v → o.map a.eval = v := fun h => evOpt_map (fun _ _ hx => hF.eval hx) h
  refine r_run hF hd ?_ (fun a' h1 => k a' _ _ h1 (hS.sub hi_ hlh hhm hc' hcc))
  simp [execOp, hF.eval hy, ev hlo, ev hhi, ev hmx, slice_run ht hs (hb w), subV]

/-- A part of a slice, as a value. -/
theorem rv_slice {t e : TypeId} {y : Operand} {lo hi mx : Option Operand} {lov hiv mxv : Option Value} {sz m c l h c' : Nat} {x : Option Addr} (hy : evo F y = some (.slice x m c))
    (hlo : evOpt F lo = some lov) (hhi : evOpt F hi = some hiv) (hmx : evOpt F mx = some mxv)
    (ht : sliceB P t = some e) (hs : sizeB P e = some sz) (hb : ∀ w, (Instr.sliceBounds true m c lov hiv mxv).run P w = .ok (l, h, c') w) :
    RunV P F (.slice t y lo hi mx) ty w (subV sz x l h c') := fun ρ hρ _ _ _ _ => by
  have ev : ∀ {o : Option Operand} {v : Option Value}, evOpt F o = some v → o.map ρ = v := fun h => evOpt_map hρ h
  simp [execOp, hρ _ _ hy, ev hlo, ev hhi, ev hmx, slice_run ht hs (hb w)]

/-- A part of an array in memory of one's own: where it lies. -/
theorem rv_subAr {t e : TypeId} {y : Operand} {lo hi mx : Option Operand} {lov hiv mxv : Option Value} {sz m l h c' b o o' : Nat} (hy : evo F y = some (.pointer (some ⟨b, o, none⟩)))
    (hlo : evOpt F lo = some lov) (hhi : evOpt F hi = some hiv) (hmx : evOpt F mx = some mxv)
    (ht : arrayB P t = some (m, e)) (hs : sizeB P e = some sz) (hb : ∀ w, (Instr.sliceBounds false m m lov hiv mxv).run P w = .ok (l, h, c') w)
    (hl : l < c' ∨ l = 0) (ho : o + l * sz = o') :
    RunV P F (.slice t y lo hi mx) ty w (.slice (some ⟨b, o', none⟩) (h - l) (c' - l)) := fun ρ hρ _ _ _ _ => by
  have ev : ∀ {o : Option Operand} {v : Option Value}, evOpt F o = some v → o.map ρ = v := fun h => evOpt_map hρ h
  have e1 : (if c' = l then (⟨b, o, none⟩ : Addr) else (⟨b, o, none⟩ : Addr).add (l * sz)) = ⟨b, o', none⟩ := by
    rw [add_none]
    split
    · have : l = 0 := by omega
      subst this; simp only [Nat.zero_mul, Nat.add_zero] at ho; rw [ho]
    · rw [ho]
  simp [execOp, hρ _ _ hy, ev hlo, ev hhi, ev hmx, Instr.sliceAt, Instr.sureAddr, run_underlying (arrayB_spec ht), hb w, sizeB_run hs, e1]

/-- What lies in a block of one's own, seen as a slice. -/
theorem blkP.sl {b o m c sz : Nat} {T : TypeId} {cs : List Value} (h : blkP b T cs w) (hmc : m ≤ c) (hl : o + m * sz ≤ cs.length) : slP sz (.slice (some ⟨b, o, none⟩) m c) ((cs.drop o).take (m * sz)) w := by
  refine .inr ⟨b, o, m, c, cs.toArray, T, (0, 0), rfl, hmc, ?_, h.1, fun j u hj => ?_, fun u hu => h.2 u (List.mem_of_mem_drop (List.mem_of_mem_take hu))⟩
  · rw [List.length_take, List.length_drop]; omega
  · rw [List.getElem?_take] at hj
    split at hj
    · rw [List.getElem?_drop] at hj; simpa using hj
    · cases hj

/-- A block of one's own becomes a slice that nobody changes any more. -/
theorem St.sealB {b o m c sz : Nat} {T : TypeId} {cs : List Value} (h : St w (blkA b T cs :: R)) (hmc : m ≤ c) (hl : o + m * sz ≤ cs.length) : St w (slA sz (.slice (some ⟨b, o, none⟩) m c) ((cs.drop o).take (m * sz)) :: R) := by
  refine h.turn (blkP.sl h.head hmc hl) (fun _ hb => hb.elim) (fun k hk => .inl ?_)
  obtain ⟨x, m, c, hv, rfl⟩ := hk
  simp only [Value.slice.injEq, Option.some.injEq] at hv
  show x.block = b
  rw [← hv.1]

/-- A block of one's own becomes a row that may grow. -/
theorem St.rowB {b m c sz : Nat} {T : TypeId} {cs : List Value} (h : St w (blkA b T cs :: R)) (hmc : m ≤ c) (hc : c ≤ maxLen) (hl : cs.length = c * sz) : St w (rowA T sz (.slice (some ⟨b, 0, none⟩) m c) (cs.take (m * sz)) :: R) := by
  refine h.turn ⟨.inr ⟨b, m, c, cs.toArray, rfl, ?_, h.head.1, hmc, hc, by simpa using hl, by simp⟩, fun u hu => h.head.2 u (List.mem_of_mem_take hu)⟩ (fun k hk => ?_) (fun k hk => hk.elim)
  · rw [List.length_take, hl, Nat.min_eq_left (Nat.mul_le_mul_right _ hmc)]
  · obtain ⟨x, m, c, hv, rfl⟩ := hk
    simp only [Value.slice.injEq, Option.some.injEq] at hv
    show x.block = b
    rw [← hv.1]

theorem St.nilRow {T sz : Nat} (h : St w M) : St w (rowA T sz (.slice none 0 0) [] :: M) := by
  refine h.new (Env.refl w) (fun _ _ => rfl) ⟨.inl ⟨rfl, rfl⟩, by simp⟩ (fun b hb => ?_) (fun b hb => hb.elim)
  obtain ⟨x, m, c, hv, rfl⟩ := hb
  simp at hv
theorem St.nilSl {sz : Nat} (h : St w M) : St w (slA sz (.slice none 0 0) [] :: M) := by
  refine h.new (Env.refl w) (fun _ _ => rfl) (.inl ⟨rfl, rfl⟩) (fun b hb => hb.elim) (fun b hb => ?_)
  obtain ⟨x, m, c, hv, rfl⟩ := hb
  simp at hv

/-! ### append -/
theorem first_run {sz : Nat} {v : Value} {cs : List Value} {m : Nat} (h : slP sz v cs w) (hw : w'.heap = w.heap) (hm : ∀ x k c, v = .slice x k c → k = m) : (Builtin.firstCells sz m v).run P w' = .ok cs.toArray w' := by
  rcases h with ⟨rfl, rfl⟩ | ⟨b, o, k, c, cells, T, fr, rfl, hkc, hl, hb, hc, h1⟩
  · simp [Builtin.firstCells]
  · have : k = m := hm _ _ _ rfl
    subst this
    refine run_firstCells_some w' sz k ⟨b, o, none⟩ k c cs hl (fun j u hj => ?_)
    rw [add_none]; simp [World.cell?, hw, hb, hc j u hj]

def slLen : Value → Nat
  | .slice _ m _ => m
  | _ => 0

theorem append_run {t ty e : TypeId} {i : TypeInfo} {z : Value} {sz bytes : Nat} (ht : P.underlying t = some (.slice e)) (hi : P.info? e = some i) (hz : i.zero = some z) (hsz : i.size = sz) (hby : i.bytes = bytes) (hzs : z.cells.size = sz)
    {v xv : Value} {cs news : List Value} (hv : rowP e sz v cs w) (hx : slP sz xv news w) (hsz0 : 0 < sz)
    (hb : (slLen v + slLen xv) * bytes ≤ 140737488355328) (hb2 : slLen v + slLen xv ≤ maxLen) :
    ∃ v' w', (Builtin.append_ #[t, t] ty #[v, xv]).run P w = .ok v' w' ∧ rowP e sz v' (cs ++ news) w' ∧ Env w w' ∧ (∀ b, b < w.heap.size → ¬ slUse v b → w'.heap[b]? = w.heap[b]?) ∧ (∀ b, slUse v' b → slUse v b ∨ w.heap.size ≤ b) ∧ slLen v' = slLen v + slLen xv := by
  subst hsz; subst hby
  obtain ⟨hv, hv1⟩ := hv
  have huse : ∀ (g k c b : Nat), slUse (.slice (some ⟨g, 0, none⟩) k c) b → b = g := by
    intro g k c b hb
    obtain ⟨x, m, c', hh, rfl⟩ := hb
    simp only [Value.slice.injEq, Option.some.injEq] at hh
    rw [← hh.1]
  have newp : ∀ (k c : Nat), k ≤ c → c ≤ maxLen → ∀ (l : List Value), l.length = k * i.size → (∀ u ∈ l, u.oneCell' = true) →
      rowP e i.size (.slice (some ⟨w.heap.size, 0, none⟩) k c) l (w.drew.alloc (.cells (l.toArray ++ Builtin.zeroCells z.cells (c - k)) e)) := by
    intro k c hk hc l hl hl1
    refine ⟨.inr ⟨w.heap.size, k, c, _, rfl, hl, heap_alloc_new w.drew _, hk, hc, ?_, ?_⟩, hl1⟩
    · simp only [Array.size_append, List.size_toArray, size_zeroCells, hzs, hl, ← Nat.add_mul]
      congr 1; omega
    · rw [← hl]; simp
  have newe : ∀ o : Obj, Env w (w.drew.alloc o) := fun o => ⟨rfl, rfl, rfl, by simp⟩
  have newb : ∀ (o : Obj) (b : Nat), b < w.heap.size → (w.drew.alloc o).heap[b]? = w.heap[b]? := fun o b hb => heap_alloc_old w.drew o hb
  have newu : ∀ (k c b : Nat), slUse (.slice (some ⟨w.heap.size, 0, none⟩) k c) b → w.heap.size ≤ b := fun k c b hb => by rw [huse _ _ _ _ hb]; exact Nat.le_refl _
  rcases hx with ⟨rfl, rfl⟩ | ⟨xb, xo, m, c, cells, T, fr, rfl, hmc, hl, hxb, hxc, hx1⟩
  · rcases hv with ⟨rfl, rfl⟩ | ⟨g, k, cap, cur, rfl, hlk, hg, hkc, hcm, hcs, htk⟩
    · refine ⟨.slice none 0 0, w, ?_, ⟨.inl ⟨rfl, rfl⟩, by simp⟩, Env.refl w, fun _ _ _ => rfl, fun b hb => .inl hb, rfl⟩
      simp [Builtin.append_, run_underlying ht, sizeOf, typeInfo, hi, Builtin.lenOf, Builtin.firstCells]
    · refine ⟨.slice (some ⟨g, 0, none⟩) k cap, w, ?_, ⟨.inr ⟨g, k, cap, cur, rfl, by simpa using hlk, hg, hkc, hcm, hcs, by simpa using htk⟩, by simpa using hv1⟩, Env.refl w, fun _ _ _ => rfl, fun b hb => .inl hb, rfl⟩
      simp [Builtin.append_, run_underlying ht, sizeOf, typeInfo, hi, Builtin.lenOf, Builtin.firstCells, hkc, storeCells]
  · have hnews : ∀ j u, news[j]? = some u → w.cell? ((⟨xb, xo, none⟩ : Addr).add j) = some u := fun j u hj => by
      rw [add_none]; simp [World.cell?, hxb, hxc j u hj]
    simp only [slLen] at hb hb2 ⊢
    rcases hv with ⟨rfl, rfl⟩ | ⟨g, k, cap, cur, rfl, hlk, hg, hkc, hcm, hcs, htk⟩
    · simp only [Nat.zero_add] at hb hb2
      by_cases hm : m = 0
      · subst hm
        have hn : news = [] := List.eq_nil_of_length_eq_zero (by simpa using hl)
        subst hn
        refine ⟨.slice none 0 0, w, ?_, ⟨.inl ⟨rfl, rfl⟩, by simp⟩, Env.refl w, fun _ _ _ => rfl, fun b hb => .inl hb, rfl⟩
        simp [Builtin.append_, run_underlying ht, sizeOf, typeInfo, hi, Builtin.lenOf, Builtin.firstCells, loadCells, loadCellsFrom]
      · have hr := run_append_nil (P := P) w t ty e i z ht hi hz ⟨xb, xo, none⟩ m c news hl hnews (by omega) (by simp only [maxLen] at hb2; omega) (by omega)
        have hge := grownCap_ge w m 0 e
        have hcm := grownCap_le_maxLen w m 0 e hb2
        refine ⟨_, _, hr, ?_, newe _, fun b hb _ => newb _ b hb, fun b hb => .inr (newu _ _ b hb), by simp⟩
        simpa using newp m _ hge hcm news hl hx1
    · have h1' : ∀ u ∈ cs ++ news, u.oneCell' = true := fun u hu => (List.mem_append.mp hu).elim (hv1 u) (hx1 u)
      have hlen : (cs ++ news).length = (k + m) * i.size := by rw [List.length_append, hlk, hl, Nat.add_mul]
      by_cases hroom : k + m ≤ cap
      · have hfit : k * i.size + news.length ≤ cur.size := by rw [hl, hcs, ← Nat.add_mul]; exact Nat.mul_le_mul_right _ hroom
        have hr := run_append_room (P := P) w t ty e i ht hi g k cap cur hg ⟨xb, xo, none⟩ m c news hl hnews hx1 hroom hfit
        refine ⟨_, _, hr, ⟨.inr ⟨g, k + m, cap, _, rfl, hlen, setRow_heap w g cur _ e _ hg, hroom, hcm, ?_, ?_⟩, h1'⟩, ⟨rfl, rfl, rfl, by simp [World.setRow]⟩, fun b hb hn => setRow_other w g b _ (fun e => hn ⟨_, _, _, rfl, e.symm⟩), fun b hb => .inl ?_, by simp⟩
        · simp only [List.size_toArray, List.length_append, List.length_take, List.length_drop, Array.length_toList]
          omega
        · rw [htk, ← hlen]; exact List.take_left
        · rw [huse _ _ _ _ hb]; exact ⟨_, _, _, rfl, rfl⟩
      · have holds : ∀ j u, cs[j]? = some u → w.cell? ((⟨g, 0, none⟩ : Addr).add j) = some u := by
          intro j u hj
          rw [add_none]
          rw [← htk, List.getElem?_take] at hj
          split at hj
          · simp [World.cell?, hg]; simpa using hj
          · cases hj
        have hr := run_append_grow (P := P) w t ty e i z ht hi hz ⟨g, 0, none⟩ k cap cs hlk holds ⟨xb, xo, none⟩ m c news hl hnews (by omega) (by simp only [maxLen] at hb2; omega) (growslice_fits (by omega) hb)
        have hge := grownCap_ge w (k + m) cap e
        have hcm := grownCap_le_maxLen w (k + m) cap e hb2
        refine ⟨_, _, hr, ?_, newe _, fun b hb _ => newb _ b hb, fun b hb => .inr (newu _ _ b hb), by simp⟩
        simpa using newp (k + m) _ hge hcm (cs ++ news) hlen h1'

theorem rowP.shape {T sz : Nat} {v : Value} {cs : List Value} (h : rowP T sz v cs w) : ∃ x m c, v = .slice x m c ∧ cs.length = m * sz := by
  obtain ⟨h | ⟨g, k, cap, cur, rfl, hl, _⟩, _⟩ := h
  · exact ⟨none, 0, 0, h.1, by rw [h.2]; simp⟩
  · exact ⟨_, k, cap, rfl, hl⟩
theorem St.rowLen {T sz m c : Nat} {x : Option Addr} {cs : List Value} (h : St w M) (hi : In M (rowA T sz (.slice x m c) cs)) : cs.length = m * sz := by
  obtain ⟨x', m', c', he, hl⟩ := rowP.shape (h.get hi)
  simp only [Value.slice.injEq] at he
  rw [hl, he.2.1]
theorem St.slLen {sz m c : Nat} {x : Option Addr} {cs : List Value} (h : St w M) (hi : In M (slA sz (.slice x m c) cs)) : cs.length = m * sz := by
  obtain ⟨x', m', c', he, _, hl⟩ := slP.len (h.get hi)
  simp only [Value.slice.injEq] at he
  rw [hl, he.2.1]

/-- append onto a row of one's own. -/
theorem r_append {t e : TypeId} {x y : Operand} {z : Value} {sz bytes m0 c0 m1 c1 : Nat} {x0 x1 : Option Addr} {cs news : List Value} (hF : Fr n ds a F) (hS : St w M) (hx : evo F x = some (.slice x0 m0 c0)) (hy : evo F y = some (.slice x1 m1 c1)) (hr : Rm M (rowA e sz (.slice x0 m0 c0) cs) R) (hn : slP sz (.slice x1 m1 c1) news w)
    (ht : sliceB P t = some e) (hi : elemB P e = some (z, sz, bytes)) (hzs : z.cells.size = sz) (hsz : Nat.blt 0 sz = true)
    (hb : (m0 + m1) * bytes ≤ 140737488355328) (hb2 : m0 + m1 ≤ 140737488355328) (hd : dstOk n (some d) = true)
    (k : ∀ a' w' x' c', Fr n ds a' ((d, .slice x' (m0 + m1) c') :: F) → St w' (rowA e sz (.slice x' (m0 + m1) c') (cs ++ news) :: R) → wpList P ops Q rest a' w') :
    wpList P ops Q (⟨some d, .call { callee := .builtin .append, args := #[x, y], argTypes := #[t, t] }, ty, pos, after, none⟩ :: rest) a w := by
  obtain ⟨i, hi1, hi2, hi3, hi4⟩ := elemB_info hi
  have hS' := hS.front hr
  obtain ⟨v', w', h1, h2, h3, h4, h5, h6⟩ := append_run (P := P) (ty := ty) (sliceB_spec ht) hi1 hi2 hi3 hi4 hzs hS'.head hn (Nat.blt_eq.mp hsz) (by simpa [slLen] using hb) (by simp only [slLen, maxLen]; omega)
  obtain ⟨x', m', c', rfl, _⟩ := rowP.shape h2
  have hm : m' = m0 + m1 := h6
  subst hm
  refine r_run (w' := w') hF hd ?_ (fun a' hf => k a' w' x' c' hf (hS'.step h3 h4 h2 h5 (fun _ h => h.elim)))
  simp only [execOp, resolve, invoke, builtin, Sem.run_bind, Sem.run_pure, Result.andThen_ok, List.map_toArray, List.map_cons, List.map_nil, hF.eval hx, hF.eval hy, h1]

/-! ### literals -/
def evParts (F : List (Nat × Value)) : List (Nat × Operand) → Option (List (Nat × Value))
  | [] => some []
  | (i, x) :: r => match evo F x with
    | some v => match evParts F r with
      | some l => some ((i, v) :: l)
      | none => none
    | none => none
theorem evParts_map {ρ : Operand → Value} (hρ : ∀ x u, evo F x = some u → ρ x = u) : ∀ (l : List (Nat × Operand)) (pv : List (Nat × Value)), evParts F l = some pv → l.map (fun (i, x) => (i, ρ x)) = pv := by
  intro l
  induction l with
  | nil => intro pv h; simp [evParts] at h; simp [h]
  | cons p l ih =>
    intro pv h
    obtain ⟨i, x⟩ := p
    simp only [evParts] at h
    cases hx : evo F x with
    | none => simp [hx] at h
    | some v =>
      rw [hx] at h
      cases hl : evParts F l with
      | none => simp [hl] at h
      | some pl =>
        rw [hl] at h
        simp at h
        subst h
        simp [hρ _ _ hx, ih pl hl]

theorem rv_build {t : TypeId} {l : List (Nat × Operand)} {pv : List (Nat × Value)} {v : Value} (hp : evParts F l = some pv) (hb : ∀ w, (Instr.build t pv.toArray).run P w = .ok v w) : RunV P F (.build t l.toArray) ty w v := fun ρ hρ _ _ _ _ => by
  have := evParts_map hρ l pv hp
  have e : (l.toArray.map fun (i, x) => (i, ρ x)) = pv.toArray := by rw [List.map_toArray, this]
  simp only [execOp, e, Sem.run_bind, hb, Result.andThen_ok, Sem.run_pure]

/-- A slice's literal: a row of one's own. -/
theorem r_bslice {t e : TypeId} {len sz : Nat} {l : List (Nat × Operand)} {pv : List (Nat × Value)} {cs : List Value} (hF : Fr n ds a F) (hS : St w M) (hp : evParts F l = some pv)
    (hb : ∀ w, (Instr.buildSlice t len pv.toArray).run P w = .ok (.slice (some ⟨w.heap.size, 0, none⟩) len len) (w.alloc (.cells cs.toArray e))) (hl : cs.length = len * sz) (h1 : ∀ u ∈ cs, u.oneCell' = true) (hm : len ≤ 140737488355328) (hd : dstOk n (some d) = true)
    (k : ∀ a' w' b, Fr n ds a' ((d, .slice (some ⟨b, 0, none⟩) len len) :: F) → St w' (rowA e sz (.slice (some ⟨b, 0, none⟩) len len) cs :: M) → wpList P ops Q rest a' w') :
    wpList P ops Q (⟨some d, .buildSlice t len l.toArray, ty, pos, after, none⟩ :: rest) a w := by
  have hmp := evParts_map (fun _ _ hx => hF.eval hx) l pv hp
  have e' : (l.toArray.map fun (i, x) => (i, a.eval x)) = pv.toArray := by rw [List.map_toArray, hmp]
  refine r_run (w' := w.alloc (.cells cs.toArray e)) hF hd ?_ (fun a' h => k a' _ w.heap.size h ?_)
  · simp only [execOp, e', Sem.run_bind, hb, Result.andThen_ok, Sem.run_pure]
  · have := (hS.alloc (T := e) (c := cs) h1).rowB (m := len) (c := len) (sz := sz) (Nat.le_refl _) (by simp only [maxLen]; omega) hl
    rw [← hl, List.take_length] at this
    exact this

theorem retc {fn : Func} {R : Ending → World → Prop} {t ct : Nat} {b : Nat} {T : TypeId} {cs : List Value} (hr : fn.results = #[.cell t ct]) (hF : Fr n ds a F) (hd : ds = []) (ht : lk F t = some (.pointer (some ⟨b, 0, none⟩))) (hS : St w M) (hi : In M (blkA b T cs)) (hg : aggB P ct = some true) (hs : sizeB P ct = some cs.length)
    (h : R (.returned (.agg cs.toArray)) w) : bodyPost P fn R .ret a w := by
  have hb : w.heap[b]? = some (.cells cs.toArray T (0, 0)) := (hS.get hi).1
  obtain ⟨i, hi1, hi2⟩ := sizeB_info hs
  have hd' : ∃ d, P.underlying ct = some d ∧ (match d with | .struct _ | .array _ _ => true | _ => false) = true := by
    unfold aggB at hg
    cases hu : P.underlying ct with
    | none => simp [hu] at hg
    | some dd => rw [hu] at hg; cases dd <;> simp at hg <;> exact ⟨_, rfl, rfl⟩
  obtain ⟨dd, h1, h2⟩ := hd'
  exact ⟨hF.defers.trans hd, _, results_cell_row hr _ _ b T cs.toArray (0, 0) dd (hF.get _ _ ht) hb h1 (by cases dd <;> simp_all) (by rw [hi1]; simp [hi2]), h⟩

/-- An array's element, by value. -/
theorem rv_index {t e m i' : Nat} {x y : Operand} {cs : List Value} {kk : IntKind} {i : Int} {v : Value} (hx : evo F x = some (.agg cs.toArray)) (hy : evo F y = some (.int kk i)) (ht : arrayB P t = some (m, e)) (hg : aggB P e = some false) (hs : sizeB P e = some 1)
    (h0 : i = Int.ofNat i') (h1 : i' < m) (hv : cs[i']? = some v) : RunV P F (.index t x y) ty w v := fun ρ hρ _ _ _ _ => by
  subst h0
  simp [execOp, hρ _ _ hx, hρ _ _ hy, Instr.index, asIntOf, run_underlying (arrayB_spec ht), h1, sizeB_run hs, part, aggB_run hg, hv]

/-! ### copy -/
theorem copy_run {dT sT ty' e : TypeId} {b o dl dc ml mc : Nat} {T : TypeId} {c cs : List Value} {x : Option Addr} (ht : P.underlying dT = some (.slice e)) (hs : sizeB P e = some 1) (hb : w.heap[b]? = some (.cells c.toArray T (0, 0))) (hx : slP 1 (.slice x ml mc) cs w) (ho : o + min ml dl ≤ c.length) :
    (Builtin.copy_ #[dT, sT] ty' #[.slice (some ⟨b, o, none⟩) dl dc, .slice x ml mc]).run P w = .ok (.int .i64 ((min ml dl : Nat) : Int)) (w.setRow b (c.take o ++ cs.take (min ml dl) ++ c.drop (o + min ml dl)).toArray) := by
  have hlen : cs.length = ml := by
    obtain ⟨x', m', c', he, _, hl⟩ := slP.len hx
    simp only [Value.slice.injEq] at he
    rw [hl, he.2.1]; simp
  have hone : ∀ u ∈ cs, u.oneCell' = true := by
    rcases hx with ⟨_, rfl⟩ | ⟨_, _, _, _, _, _, _, _, _, _, _, _, h1⟩
    · simp
    · exact h1
  have hlt : (cs.take (min ml dl)).length = min ml dl := by rw [List.length_take]; omega
  have hf : (Builtin.firstCells 1 (min ml dl) (.slice x ml mc)).run P w = .ok (cs.take (min ml dl)).toArray w := by
    rcases hx with ⟨hv, rfl⟩ | ⟨xb, xo, m', c', cells, T', fr, hv, hmc, hl, hxb, hxc, h1⟩
    · simp only [Value.slice.injEq] at hv
      obtain ⟨rfl, rfl, rfl⟩ := hv
      simp [Builtin.firstCells]
    · simp only [Value.slice.injEq] at hv
      obtain ⟨rfl, rfl, rfl⟩ := hv
      refine run_firstCells_some w 1 (min ml dl) ⟨xb, xo, none⟩ ml mc (cs.take (min ml dl)) (by rw [hlt]; simp) (fun j u hj => ?_)
      rw [List.getElem?_take] at hj
      split at hj
      · rw [add_none]; simp [World.cell?, hxb, hxc j u hj]
      · cases hj
  have hst := run_storeCells_at (P := P) b o T (cs.take (min ml dl)) 0 c.toArray w hb (by rw [hlt]; simpa using ho) (fun u hu => hone u (List.mem_of_mem_take hu))
  simp only [Nat.add_zero, hlt] at hst
  have hmin : Nat.min ml dl = min ml dl := rfl
  simp [Builtin.copy_, run_underlying ht, Builtin.lenOf, sizeB_run hs, hmin, hf, hst, goInt]

/-- copy into a block of one's own, each element one cell. -/
theorem r_copy {dT sT e : TypeId} {x y : Operand} {b o dl dc ml mc : Nat} {T : TypeId} {c cs : List Value} {xs : Option Addr} (hF : Fr n ds a F) (hS : St w M) (hx : evo F x = some (.slice (some ⟨b, o, none⟩) dl dc)) (hy : evo F y = some (.slice xs ml mc)) (hr : Rm M (blkA b T c) R) (hn : slP 1 (.slice xs ml mc) cs w)
    (ht : sliceB P dT = some e) (hs : sizeB P e = some 1) (ho : o + min ml dl ≤ c.length) (hd : dstOk n (some d) = true)
    (k : ∀ a' w', Fr n ds a' ((d, .int .i64 ((min ml dl : Nat) : Int)) :: F) → St w' (blkA b T (c.take o ++ cs.take (min ml dl) ++ c.drop (o + min ml dl)) :: R) → wpList P ops Q rest a' w') :
    wpList P ops Q (⟨some d, .call { callee := .builtin .copy, args := #[x, y], argTypes := #[dT, sT] }, ty, pos, after, none⟩ :: rest) a w := by
  have hS' := hS.front hr
  have hb : w.heap[b]? = some (.cells c.toArray T (0, 0)) := hS'.head.1
  refine r_run (w' := w.setRow b (c.take o ++ cs.take (min ml dl) ++ c.drop (o + min ml dl)).toArray) hF hd ?_ (fun a' hf => k a' _ hf ?_)
  · simp only [execOp, resolve, invoke, builtin, Sem.run_bind, Sem.run_pure, Result.andThen_ok, List.map_toArray, List.map_cons, List.map_nil, hF.eval hx, hF.eval hy, copy_run (sliceB_spec ht) hs hb hn ho]
  · refine hS'.step ⟨rfl, rfl, rfl, by simp [World.setRow]⟩ (fun k _ hk => setRow_other w b k _ hk) ⟨?_, fun u hu => ?_⟩ (fun _ hk => .inl hk) (fun _ hk => hk.elim)
    · show (w.setRow b _).heap[b]? = _
      rw [setRow_heap w b _ _ T (0, 0) hb]
    · simp only [List.mem_append] at hu
      rcases hu with (hu | hu) | hu
      · exact hS'.head.2 u (List.mem_of_mem_take hu)
      · exact slP.one hn u (List.mem_of_mem_take hu)
      · exact hS'.head.2 u (List.mem_of_mem_drop hu)

theorem perm_of_rm {R' : List Asrt} {A : Asrt} (h : Rm M A R) (h' : R.Perm R') : M.Perm (A :: R') := h.perm.trans (List.Perm.cons A h')

/-! ### two lists, the one's front laid over the other's -/
theorem over_get {α : Type} (A B : List α) (i : Nat) (v : α) (hl : B.length = A.length) (hv : A[i]? = some v) : (B.take i ++ A.drop i)[i]? = some v := by
  have hi : i < A.length := (List.getElem?_eq_some_iff.mp hv).1
  have e : (B.take i).length = i := by rw [List.length_take]; omega
  rw [List.getElem?_append_right (by omega), e, Nat.sub_self, List.getElem?_drop, Nat.add_zero, hv]
theorem over_step {α : Type} (A B : List α) (i : Nat) (v : α) (hl : B.length = A.length) (hv : B[i]? = some v) : (B.take i ++ A.drop i).set i v = B.take (i + 1) ++ A.drop (i + 1) := by
  have hi : i < B.length := (List.getElem?_eq_some_iff.mp hv).1
  have e : (B.take i).length = i := by rw [List.length_take]; omega
  rw [List.set_append, if_neg (by omega), e, Nat.sub_self, List.take_add_one, hv, List.drop_eq_getElem_cons (by omega), List.set_cons_zero]
  simp

theorem St.sublist {M' : List Asrt} (h : St w M) (hs : M'.Sublist M) : St w M' := ⟨fun A hA => h.p A (hs.subset hA), h.ap.sublist hs⟩

/-! ### bytes as a string -/
theorem rv_bstr {sT dT e : TypeId} {x : Operand} {ml mc : Nat} {xa : Option Addr} {bs : List UInt8} (hx : evo F x = some (.slice xa ml mc)) (hn : slP 1 (.slice xa ml mc) (bs.map u8) w)
    (hs : sliceB P sT = some e) (he : P.underlying e = some (.int .u8)) (hd : P.underlying dT = some .string) : RunV P F (.convert sT dT x) ty w (.string ⟨bs.toArray⟩) := fun ρ hρ _ _ _ _ => by
  have key : (convert sT dT (.slice xa ml mc)).run P w = .ok (.string ⟨bs.toArray⟩) w := by
    rcases hn with ⟨hv, hb⟩ | ⟨xb, xo, m', c', cells, T', fr, hv, hmc, hl, hxb, hxc, h1⟩
    · simp only [Value.slice.injEq] at hv
      obtain ⟨rfl, rfl, rfl⟩ := hv
      have hb' : bs = [] := by cases bs <;> simp_all
      subst hb'
      exact run_convert_bytes_nil w sT e (sliceB_spec hs) he 0 0 dT hd
    · simp only [Value.slice.injEq] at hv
      obtain ⟨rfl, rfl, rfl⟩ := hv
      have hr := run_convert_bytes_arg (P := P) w sT e (sliceB_spec hs) he xb xo ml mc (bs.map fun b => (b.toNat : Int)) (by simpa using hl) (fun i hi => by
        have hlt : i < bs.length := by simp at hl; omega
        have h2 := hxc i (u8 bs[i]) (by simp [hlt])
        have e1 : w.cell? ⟨xb, xo + i, none⟩ = some (u8 bs[i]) := by simp [World.cell?, hxb, h2]
        rw [e1]; simp [hlt]) dT hd
      rw [hr]
      have : strOfNums (bs.map fun b => (b.toNat : Int)) = ⟨bs.toArray⟩ := by
        unfold strOfNums
        congr 2
        rw [List.map_map]
        conv => rhs; rw [← List.map_id bs]
        congr 1
        funext b; simp
      rw [this]
  simp only [execOp, hρ _ _ hx, Sem.run_bind, key, Result.andThen_ok, Sem.run_pure]

/-! ### lists that are filled from the front -/
theorem fill_step {α : Type} (l : List α) (n k : Nat) (z v : α) (hl : l.length = n) (hk : k < n) (hv : l[k]? = some v) :
    (l.take k ++ List.replicate (n - k) z).set k v = l.take (k + 1) ++ List.replicate (n - (k + 1)) z := by
  obtain ⟨m, hm⟩ : ∃ m, n - k = m + 1 := ⟨n - k - 1, by omega⟩
  have hm' : n - (k + 1) = m := by omega
  have e : (l.take k).length = k := by rw [List.length_take]; omega
  rw [hm, hm', List.replicate_succ, List.set_append, if_neg (by omega), e, Nat.sub_self, List.set_cons_zero, List.take_add_one, hv]
  simp
theorem fill_get {α : Type} (l : List α) (n k i : Nat) (z v : α) (hi : i < k) (hv : l[i]? = some v) : (l.take k ++ List.replicate (n - k) z)[i]? = some v := by
  have hl : i < l.length := (List.getElem?_eq_some_iff.mp hv).1
  rw [List.getElem?_append_left (by rw [List.length_take]; omega), List.getElem?_take, if_pos hi, hv]
theorem fill_len {α : Type} (l : List α) (n k : Nat) (z : α) (hl : l.length = n) (hk : k ≤ n) : (l.take k ++ List.replicate (n - k) z).length = n := by
  simp; omega
theorem fill_done {α : Type} (l : List α) (n : Nat) (z : α) (hl : l.length = n) : l.take n ++ List.replicate (n - n) z = l := by
  simp [← hl]

theorem St.blk_eq {b : Nat} {T : TypeId} {c c' : List Value} (h : St w (blkA b T c :: R)) (e : c = c') : St w (blkA b T c' :: R) := e ▸ h
theorem St.sl_eq {sz : Nat} {v : Value} {c c' : List Value} (h : St w (slA sz v c :: R)) (e : c = c') : St w (slA sz v c' :: R) := e ▸ h
theorem St.row_eq {T sz : Nat} {v : Value} {c c' : List Value} (h : St w (rowA T sz v c :: R)) (e : c = c') : St w (rowA T sz v c' :: R) := e ▸ h

end Go.Bz
