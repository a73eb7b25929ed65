/- Texts in memory (slices of bytes) under one name each, and the rules of what is done with them. No condition: a library of lemmas. -/
import Derived.Test.YtamghofogkdafaaDraw
namespace Go.Bz
set_option linter.unusedVariables false

variable {n : Nat} {ds : List Deferred} {a : Act} {F : List (Nat × Value)} {P : Program} {ops : Array Oper} {Q : Exit → Act → World → Prop} {rest : List Oper} {w w' : World}
variable {d : Nat} {ty : TypeId} {pos : String} {after : Array Edge} {M R : List Asrt}

/-- A text: where it lies, how much room there is, its bytes. -/
def tx (x : Option Addr) (c : Nat) (b : List UInt8) : Value := .slice x b.length c
/-- It is read by whom it concerns, and changed by nobody. -/
def txA (x : Option Addr) (c : Nat) (b : List UInt8) : Asrt := slA 1 (tx x c b) (b.map u8)
/-- It is one's own, and may grow. -/
def txR (T : TypeId) (x : Option Addr) (c : Nat) (b : List UInt8) : Asrt := rowA T 1 (tx x c b) (b.map u8)
/-- Where a text's part from l on lies. -/
def subX (x : Option Addr) (c l : Nat) : Option Addr := if c = l then x else x.map (·.add l)
/-- The place of a text's byte. -/
def txAt (x : Option Addr) (i : Nat) : Value := .pointer (x.map (·.add i))

theorem tx_nil : (Value.slice none 0 0) = tx none 0 [] := rfl
theorem add_zero (ad : Addr) : ad.add 0 = ad := by simp [Addr.add]
theorem subX_zero (x : Option Addr) (c : Nat) : subX x c 0 = x := by
  unfold subX; split
  · rfl
  · cases x <;> simp [add_zero]
theorem subV_tx {x : Option Addr} {c c' l h : Nat} {b : List UInt8} (hb : b.length = h - l) : subV 1 x l h c' = tx (subX x c' l) (c' - l) b := by
  unfold subV tx subX
  rw [hb, Nat.mul_one]

/-! ### what is known of a text -/
theorem txP_len {x : Option Addr} {c : Nat} {b : List UInt8} (h : (txA x c b).p w) : b.length ≤ c := by
  obtain ⟨_, m, c', he, h1, _⟩ := slP.len h
  unfold tx at he
  simp only [Value.slice.injEq] at he
  omega
theorem txP_some {x : Option Addr} {c : Nat} {b : List UInt8} (h : (txA x c b).p w) (hb : 0 < b.length) : ∃ g o, x = some ⟨g, o, none⟩ := by
  rcases h with ⟨hv, he⟩ | ⟨g, o, m', c', cells, T, fr, hv, _⟩
  · unfold tx at hv; simp only [Value.slice.injEq] at hv; omega
  · unfold tx at hv; simp only [Value.slice.injEq] at hv
    exact ⟨g, o, hv.1⟩

theorem In.ofR {T : TypeId} {x : Option Addr} {c : Nat} {b : List UInt8} (h : In M (txR T x c b)) : In M (txA x c b) := ⟨fun w hw => rowP.sl (h.1 w hw)⟩
theorem In.hereR {T : TypeId} {x : Option Addr} {c : Nat} {b : List UInt8} : In (txR T x c b :: M) (txA x c b) := ⟨fun _ hw => rowP.sl hw.head⟩
theorem txP_lo {x : Option Addr} {c l : Nat} {b : List UInt8} (h : (txA x c b).p w) : (txA (subX x c l) (c - l) (b.drop l)).p w := by
  by_cases hl : l ≤ b.length
  · have hc := txP_len h
    have h1 := slP.sub (l := l) (h := b.length) (c' := c) h hl (Nat.le_refl _) hc (Nat.le_refl _)
    rw [subV_tx (c := c) (b := b.drop l) (by simp)] at h1
    have e : (List.map u8 b |>.drop (l * 1)).take ((b.length - l) * 1) = (b.drop l).map u8 := by
      rw [Nat.mul_one, Nat.mul_one, ← List.map_drop, List.take_of_length_le (by simp)]
    rw [e] at h1; exact h1
  · have e : b.drop l = [] := List.drop_eq_nil_of_le (by omega)
    rw [e]
    rcases h with ⟨hv, _⟩ | ⟨g, o, m', c', cells, T, fr, hv, _, _, hg, _⟩
    · unfold tx at hv
      simp only [Value.slice.injEq] at hv
      obtain ⟨rfl, _, rfl⟩ := hv
      refine .inl ⟨?_, rfl⟩
      unfold tx subX; simp
    · unfold tx at hv
      simp only [Value.slice.injEq] at hv
      obtain ⟨rfl, _, rfl⟩ := hv
      unfold txA tx subX
      split
      · exact .inr ⟨g, o, 0, c - l, cells, T, fr, rfl, by omega, rfl, hg, by simp, by simp⟩
      · exact .inr ⟨g, o + l, 0, c - l, cells, T, fr, by simp [add_none], by omega, rfl, hg, by simp, by simp⟩
theorem txP_hi {x : Option Addr} {c h : Nat} {b : List UInt8} (hp : (txA x c b).p w) : (txA x c (b.take h)).p w := by
  by_cases hh : h ≤ b.length
  · have hc := txP_len hp
    have h1 := slP.sub (l := 0) (h := h) (c' := c) hp (Nat.zero_le _) hh (by omega) (Nat.le_refl _)
    rw [subV_tx (c := c) (b := b.take h) (by simp; omega), subX_zero] at h1
    have e : (List.map u8 b |>.drop (0 * 1)).take ((h - 0) * 1) = (b.take h).map u8 := by simp
    rw [e] at h1; exact h1
  · rw [List.take_of_length_le (by omega)]; exact hp
theorem In.txLo {x : Option Addr} {c l : Nat} {b : List UInt8} (h : In M (txA x c b)) : In M (txA (subX x c l) (c - l) (b.drop l)) := ⟨fun w hw => txP_lo (h.1 w hw)⟩
theorem In.txHi {x : Option Addr} {c h : Nat} {b : List UInt8} (hi : In M (txA x c b)) : In M (txA x c (b.take h)) := ⟨fun w hw => txP_hi (hi.1 w hw)⟩
theorem In.txLH {x : Option Addr} {c l h : Nat} {b : List UInt8} (hi : In M (txA x c b)) : In M (txA (subX x c l) (c - l) ((b.drop l).take h)) := hi.txLo.txHi
theorem In.txMx {x : Option Addr} {c h : Nat} {b : List UInt8} (hi : In M (txA x c b)) (hh : h ≤ b.length) : In M (txA x h (b.take h)) := by
  refine ⟨fun w hw => ?_⟩
  have hc := txP_len (hi.1 w hw)
  have h1 := slP.sub (l := 0) (h := h) (c' := h) (hi.1 w hw) (Nat.zero_le _) hh (Nat.le_refl _) (by omega)
  rw [subV_tx (c := c) (b := b.take h) (by simp; omega), subX_zero] at h1
  have e : (List.map u8 b |>.drop (0 * 1)).take ((h - 0) * 1) = (b.take h).map u8 := by simp
  rw [e] at h1; exact h1
theorem In.txNil : In M (txA none 0 []) := ⟨fun _ _ => .inl ⟨rfl, rfl⟩⟩

/-! ### values -/
theorem rv_lenT {x : Operand} {x0 : Option Addr} {c0 : Nat} {b : List UInt8} {t e : TypeId} (hx : evo F x = some (tx x0 c0 b)) (ht : P.underlying t = some (.slice e)) :
    RunV P F (.call { callee := .builtin .len, args := #[x], argTypes := #[t] }) ty w (.int .i64 (b.length : Int)) := rv_len (v := x0) (c := c0) hx ht

theorem slice_txV {t e : TypeId} {y : Operand} {lo hi mx : Option Operand} {lov hiv mxv : Option Value} {x : Option Addr} {c l h c' : Nat} {b b' : List UInt8} (hy : evo F y = some (tx x c b))
    (hlo : evOpt F lo = some lov) (hhi : evOpt F hi = some hiv) (hmx : evOpt F mx = some mxv)
    (ht : sliceB P t = some e) (hs : sizeB P e = some 1) (hb : ∀ w, (Instr.sliceBounds true b.length c lov hiv mxv).run P w = .ok (l, h, c') w) (hb' : b'.length = h - l) :
    RunV P F (.slice t y lo hi mx) ty w (tx (subX x c' l) (c' - l) b') := by
  have := rv_slice (ty := ty) (w := w) hy hlo hhi hmx ht hs hb
  rw [subV_tx (c := c) hb'] at this
  exact this
theorem evo_opt {x : Operand} {v : Value} (h : evo F x = some v) : evOpt F (some x) = some (some v) := by simp only [evOpt, h]
theorem rv_txLo {t e : TypeId} {y lo : Operand} {x : Option Addr} {c l : Nat} {i : Int} {kk : IntKind} {b : List UInt8} (hy : evo F y = some (tx x c b))
    (hlo : evo F lo = some (.int kk i)) (ht : sliceB P t = some e) (hs : sizeB P e = some 1) (hi : i = Int.ofNat l) (hl : l ≤ b.length) :
    RunV P F (.slice t y (some lo) none none) ty w (tx (subX x c l) (c - l) (b.drop l)) :=
  slice_txV hy (evo_opt hlo) (hi := none) rfl (mx := none) rfl ht hs (fun _ => bounds_lo hi hl) (by simp)
theorem rv_txHi {t e : TypeId} {y hi : Operand} {x : Option Addr} {c h : Nat} {i : Int} {kk : IntKind} {b : List UInt8} (hy : evo F y = some (tx x c b))
    (hhi : evo F hi = some (.int kk i)) (ht : sliceB P t = some e) (hs : sizeB P e = some 1) (hi' : i = Int.ofNat h) (hp : (txA x c b).p w) (hl : h ≤ b.length) :
    RunV P F (.slice t y none (some hi) none) ty w (tx x c (b.take h)) := by
  have hc := txP_len hp
  have := slice_txV (ty := ty) (w := w) (b' := b.take h) hy (lo := none) rfl (evo_opt hhi) (mx := none) rfl ht hs (fun _ => bounds_hi hi' (Nat.le_trans hl hc)) (by simp; omega)
  rwa [subX_zero] at this
theorem rv_txLH {t e : TypeId} {y lo hi : Operand} {x : Option Addr} {c l h : Nat} {i j : Int} {kk k2 : IntKind} {b : List UInt8} (hy : evo F y = some (tx x c b))
    (hlo : evo F lo = some (.int kk i)) (hhi : evo F hi = some (.int k2 j)) (ht : sliceB P t = some e) (hs : sizeB P e = some 1) (hi' : i = Int.ofNat l) (hj' : j = Int.ofNat h) (hp : (txA x c b).p w) (hlh : l ≤ h) (hl : h ≤ b.length) :
    RunV P F (.slice t y (some lo) (some hi) none) ty w (tx (subX x c l) (c - l) ((b.drop l).take (h - l))) := by
  have hc := txP_len hp
  exact slice_txV hy (evo_opt hlo) (evo_opt hhi) (mx := none) rfl ht hs (fun _ => bounds_run hi' hj' hlh (by omega)) (by simp; omega)
/-- b[:len(b):len(b)] -/
theorem rv_txMx {t e : TypeId} {y hi mx : Operand} {x : Option Addr} {c : Nat} {i j : Int} {kk k2 : IntKind} {b : List UInt8} (hy : evo F y = some (tx x c b))
    (hhi : evo F hi = some (.int kk i)) (hmx : evo F mx = some (.int k2 j)) (ht : sliceB P t = some e) (hs : sizeB P e = some 1) (hi' : i = Int.ofNat b.length) (hj' : j = Int.ofNat b.length) (hp : (txA x c b).p w) :
    RunV P F (.slice t y none (some hi) (some mx)) ty w (tx x b.length b) := by
  have hc := txP_len hp
  have := slice_txV (ty := ty) (w := w) (b' := b) hy (lo := none) rfl (evo_opt hhi) (evo_opt hmx) ht hs (fun _ => bounds_max hi' hj' (Nat.le_refl _) hc) (by simp)
  rwa [subX_zero] at this

theorem rv_ixT {t e : TypeId} {x y : Operand} {x0 : Option Addr} {c0 : Nat} {b : List UInt8} {kk : IntKind} {i : Int} {i' : Nat} (hx : evo F x = some (tx x0 c0 b)) (hy : evo F y = some (.int kk i)) (ht : sliceB P t = some e) (hs : sizeB P e = some 1)
    (h0 : i = Int.ofNat i') (hp : (txA x0 c0 b).p w) (h1 : i' < b.length) : RunV P F (.indexAddr t x y) ty w (txAt x0 i') := by
  obtain ⟨g, o, rfl⟩ := txP_some hp (by omega)
  have := rv_ixSl (ty := ty) (w := w) (o' := o + i') hx hy ht hs h0 h1 (by omega)
  simpa [txAt, add_none] using this
theorem rv_ldT {t : TypeId} {x : Operand} {x0 : Option Addr} {c0 : Nat} {b : List UInt8} {i' : Nat} {u : UInt8} (hx : evo F x = some (txAt x0 i')) (hg : aggB P t = some false) (hp : (txA x0 c0 b).p w) (hu : b[i']? = some u) : RunV P F (.load t x) ty w (u8 u) := by
  have hlt := (List.getElem?_eq_some_iff.mp hu).1
  obtain ⟨g, o, rfl⟩ := txP_some hp (by omega)
  have hc : w.cell? ⟨g, o + i', none⟩ = some (u8 u) := slP.cell (h := hp) (by rw [List.getElem?_map, hu]; rfl)
  exact rv_load1 (by simpa [txAt, add_none] using hx) hg hc
/-- A text as a string. -/
theorem rv_strT {sT dT e : TypeId} {x : Operand} {c0 : Nat} {x0 : Option Addr} {b : List UInt8} (hx : evo F x = some (tx x0 c0 b)) (hn : (txA x0 c0 b).p w)
    (hs : sliceB P sT = some e) (he : P.underlying e = some (.int .u8)) (hd : P.underlying dT = some .string) : RunV P F (.convert sT dT x) ty w (.string ⟨b.toArray⟩) := rv_bstr hx hn hs he hd

/-! ### what grows -/
theorem St.nilTx {T : TypeId} (h : St w M) : St w (txR T none 0 [] :: M) := h.nilRow
theorem St.nilTxA (h : St w M) : St w (txA none 0 [] :: M) := h.nilSl
theorem St.sealT {T : TypeId} {x : Option Addr} {c : Nat} {b : List UInt8} (h : St w (txR T x c b :: R)) : St w (txA x c b :: R) := h.seal
theorem St.tx_eq {x : Option Addr} {c : Nat} {b b' : List UInt8} (h : St w (txA x c b :: R)) (e : b = b') : St w (txA x c b' :: R) := e ▸ h
theorem St.txR_eq {T : TypeId} {x : Option Addr} {c : Nat} {b b' : List UInt8} (h : St w (txR T x c b :: R)) (e : b = b') : St w (txR T x c b' :: R) := e ▸ h
/-- A block of bytes of one's own is a text that may grow. -/
theorem St.blkT {b : Nat} {T : TypeId} {l : List UInt8} (h : St w (blkA b T (l.map u8) :: R)) (hc : l.length ≤ maxLen) : St w (txR T (some ⟨b, 0, none⟩) l.length l :: R) := by
  have := h.rowB (m := l.length) (c := l.length) (sz := 1) (Nat.le_refl _) hc (by simp)
  rw [Nat.mul_one, List.take_of_length_le (by simp)] at this
  exact this
theorem St.blkTA {b : Nat} {T : TypeId} {l : List UInt8} (h : St w (blkA b T (l.map u8) :: R)) (hc : l.length ≤ maxLen) : St w (txA (some ⟨b, 0, none⟩) l.length l :: R) := (h.blkT hc).sealT

/-- append of a text behind one of one's own. -/
theorem r_appT {t e : TypeId} {x y : Operand} {z : Value} {bytes c0 c1 : Nat} {x0 x1 : Option Addr} {b0 b1 : List UInt8} (hF : Fr n ds a F) (hS : St w M) (hx : evo F x = some (tx x0 c0 b0)) (hy : evo F y = some (tx x1 c1 b1)) (hr : Rm M (txR e x0 c0 b0) R) (hn : In M (txA x1 c1 b1))
    (ht : sliceB P t = some e) (hi : elemB P e = some (z, 1, bytes)) (hzs : z.cells.size = 1) (hby : Nat.beq bytes 1 = true)
    (hb : b0.length + b1.length ≤ 140737488355328) (hd : dstOk n (some d) = true)
    (k : ∀ a' w' x' c', Fr n ds a' ((d, tx x' c' (b0 ++ b1)) :: F) → St w' (txR e x' c' (b0 ++ b1) :: R) → wpList P ops Q rest a' w') :
    wpList P ops Q (⟨some d, .call { callee := .builtin .append, args := #[x, y], argTypes := #[t, t] }, ty, pos, after, none⟩ :: rest) a w := by
  have e1 : bytes = 1 := Nat.eq_of_beq_eq_true hby
  subst e1
  refine r_append hF hS hx hy hr (hS.get hn) ht hi hzs rfl (by omega) hb hd fun a' w' x' c' h1 h2 => k a' w' x' c' ?_ ?_
  · unfold tx; rw [List.length_append]; exact h1
  · unfold txR tx; rw [List.length_append, List.map_append]; exact h2

/-! ### literals -/
def idxd : Nat → List Value → List (Nat × Value)
  | _, [] => []
  | k, v :: vs => (k, v) :: idxd (k + 1) vs
theorem one_cells {v : Value} (h : v.oneCell' = true) : v.cells = #[v] := by cases v <;> simp_all [Value.cells, Value.oneCell']
theorem fill_idxd (vs : List Value) : ∀ (k : Nat) (cs : Array Value), cs.size = k + vs.length → (∀ v ∈ vs, v.oneCell' = true) →
    Instr.fill (fun i => some (i * 1, 1)) cs (idxd k vs) = some ((cs.toList.take k ++ vs).toArray) := by
  induction vs with
  | nil =>
    intro k cs hl _
    simp only [List.length_nil, Nat.add_zero] at hl
    simp only [idxd, Instr.fill, ← hl, List.append_nil]
    rw [← Array.length_toList, List.take_length]
  | cons v vs ih =>
    intro k cs hl h1
    simp only [List.length_cons] at hl
    have hv := one_cells (h1 v (by simp))
    simp only [idxd, Instr.fill, hv]
    rw [if_neg (by simp; omega)]
    have e : (#[v].zipIdx.foldl (fun cs (x : Value × Nat) => cs.setIfInBounds (k * 1 + x.2) x.1) cs) = cs.setIfInBounds k v := by simp
    have e' := ih (k + 1) (cs.setIfInBounds k v) (by simp; omega) (fun u hu => h1 u (by simp [hu]))
    refine Eq.trans ?_ (e'.trans ?_)
    · congr 1
    · congr 2
      rw [Array.toList_setIfInBounds, List.take_set, List.take_add_one]
      have hk : k < cs.toList.length := by rw [Array.length_toList]; omega
      have e3 : (cs.toList.take k ++ cs.toList[k]?.toList).set k v = cs.toList.take k ++ [v] := by
        rw [List.getElem?_eq_getElem hk, List.set_append, if_neg (by rw [List.length_take]; omega), List.length_take]
        rw [show k - min k cs.toList.length = 0 by omega]; rfl
      rw [e3]; simp
theorem buildSlice_run {P : Program} {t e : TypeId} {z : Value} {vs : List Value} (ht : sliceB P t = some e) (hs : sizeB P e = some 1) (hz : ∀ w, (zeroValue e).run P w = .ok z w) (hz1 : z.cells.size = 1) (h1 : ∀ v ∈ vs, v.oneCell' = true) (hl : vs.length ≤ 1000) (w : World) :
    (Instr.buildSlice t vs.length (idxd 0 vs).toArray).run P w = .ok (.slice (some ⟨w.heap.size, 0, none⟩) vs.length vs.length) (w.alloc (.cells vs.toArray e)) := by
  have hf := fill_idxd vs 0 ((Array.range (vs.length * 1)).map (z.cells[· % z.cells.size]!)) (by simp) h1
  by_cases h0 : vs.length = 0
  · have : vs = [] := List.eq_nil_of_length_eq_zero h0
    subst this
    simp [Instr.buildSlice, run_underlying (sliceB_spec ht), sizeB_run hs, Instr.fill, idxd, newRow]
    have e0 : Array.range 0 = #[] := by simp [Array.range]
    simp [e0]
  · have hn : ¬ vs.length * 1 > 2 ^ 24 := by omega
    have h0' : ¬ vs.length * 1 = 0 := by omega
    simp only [Instr.buildSlice, Sem.run_bind, Sem.run_pure, run_underlying (sliceB_spec ht), Result.andThen_ok, sizeB_run hs, hn, h0', if_false, hz, hf]
    simp [newRow]

/-- A literal of a slice whose elements are of one cell each. -/
theorem r_lit1 {t e : TypeId} {l : List (Nat × Operand)} {z : Value} {vs : List Value} {len : Nat} (hF : Fr n ds a F) (hS : St w M) (hp : evParts F l = some (idxd 0 vs)) (hlen : vs.length = len) (ht : sliceB P t = some e) (hs : sizeB P e = some 1) (hz : ∀ w, (zeroValue e).run P w = .ok z w) (hz1 : z.cells.size = 1)
    (h1 : ∀ v ∈ vs, v.oneCell' = true) (hl : Nat.ble len 1000 = true) (hd : dstOk n (some d) = true)
    (k : ∀ a' w' b, Fr n ds a' ((d, .slice (some ⟨b, 0, none⟩) len len) :: F) → St w' (rowA e 1 (.slice (some ⟨b, 0, none⟩) len len) vs :: M) → wpList P ops Q rest a' w') :
    wpList P ops Q (⟨some d, .buildSlice t len l.toArray, ty, pos, after, none⟩ :: rest) a w := by
  subst hlen
  have hl' : vs.length ≤ 1000 := Nat.ble_eq.mp hl
  exact r_bslice (sz := 1) hF hS hp (fun w => buildSlice_run ht hs hz hz1 h1 hl' w) (by simp) h1 (by omega) hd (fun a' w' b h1 h2 => k a' w' b h1 h2)
theorem r_lits {t e : TypeId} {l : List (Nat × Operand)} {z : Value} {vs : List Value} (hF : Fr n ds a F) (hS : St w M) (hp : evParts F l = some (idxd 0 vs)) (ht : sliceB P t = some e) (hs : sizeB P e = some 1) (hz : ∀ w, (zeroValue e).run P w = .ok z w) (hz1 : z.cells.size = 1)
    (h1 : vs.all Value.oneCell' = true) (hl : Nat.ble vs.length 1000 = true) (hd : dstOk n (some d) = true)
    (k : ∀ a' w' b, Fr n ds a' ((d, .slice (some ⟨b, 0, none⟩) vs.length vs.length) :: F) → St w' (rowA e 1 (.slice (some ⟨b, 0, none⟩) vs.length vs.length) vs :: M) → wpList P ops Q rest a' w') :
    wpList P ops Q (⟨some d, .buildSlice t vs.length l.toArray, ty, pos, after, none⟩ :: rest) a w := r_lit1 hF hS hp rfl ht hs hz hz1 (onesAll h1) hl hd k
theorem r_lit_1 {t e : TypeId} {x0 : Operand} {z v0 : Value} (hF : Fr n ds a F) (hS : St w M) (h0 : evo F x0 = some v0) (ht : sliceB P t = some e) (hs : sizeB P e = some 1) (hz : ∀ w, (zeroValue e).run P w = .ok z w) (hz1 : z.cells.size = 1)
    (h1 : [v0].all Value.oneCell' = true) (hd : dstOk n (some d) = true)
    (k : ∀ a' w' b, Fr n ds a' ((d, .slice (some ⟨b, 0, none⟩) 1 1) :: F) → St w' (rowA e 1 (.slice (some ⟨b, 0, none⟩) 1 1) [v0] :: M) → wpList P ops Q rest a' w') :
    wpList P ops Q (⟨some d, .buildSlice t 1 #[(0, x0)], ty, pos, after, none⟩ :: rest) a w := r_lits (l := [(0, x0)]) (vs := [v0]) hF hS (by simp only [evParts, h0]; rfl) ht hs hz hz1 h1 rfl hd k
theorem r_lit_2 {t e : TypeId} {x0 x1 : Operand} {z v0 v1 : Value} (hF : Fr n ds a F) (hS : St w M) (h0 : evo F x0 = some v0) (h1' : evo F x1 = some v1) (ht : sliceB P t = some e) (hs : sizeB P e = some 1) (hz : ∀ w, (zeroValue e).run P w = .ok z w) (hz1 : z.cells.size = 1)
    (h1 : [v0, v1].all Value.oneCell' = true) (hd : dstOk n (some d) = true)
    (k : ∀ a' w' b, Fr n ds a' ((d, .slice (some ⟨b, 0, none⟩) 2 2) :: F) → St w' (rowA e 1 (.slice (some ⟨b, 0, none⟩) 2 2) [v0, v1] :: M) → wpList P ops Q rest a' w') :
    wpList P ops Q (⟨some d, .buildSlice t 2 #[(0, x0), (1, x1)], ty, pos, after, none⟩ :: rest) a w := r_lits (l := [(0, x0), (1, x1)]) (vs := [v0, v1]) hF hS (by simp only [evParts, h0, h1']; rfl) ht hs hz hz1 h1 rfl hd k
theorem r_lit_3 {t e : TypeId} {x0 x1 x2 : Operand} {z v0 v1 v2 : Value} (hF : Fr n ds a F) (hS : St w M) (h0 : evo F x0 = some v0) (h1' : evo F x1 = some v1) (h2' : evo F x2 = some v2) (ht : sliceB P t = some e) (hs : sizeB P e = some 1) (hz : ∀ w, (zeroValue e).run P w = .ok z w) (hz1 : z.cells.size = 1)
    (h1 : [v0, v1, v2].all Value.oneCell' = true) (hd : dstOk n (some d) = true)
    (k : ∀ a' w' b, Fr n ds a' ((d, .slice (some ⟨b, 0, none⟩) 3 3) :: F) → St w' (rowA e 1 (.slice (some ⟨b, 0, none⟩) 3 3) [v0, v1, v2] :: M) → wpList P ops Q rest a' w') :
    wpList P ops Q (⟨some d, .buildSlice t 3 #[(0, x0), (1, x1), (2, x2)], ty, pos, after, none⟩ :: rest) a w := r_lits (l := [(0, x0), (1, x1), (2, x2)]) (vs := [v0, v1, v2]) hF hS (by simp only [evParts, h0, h1', h2']; rfl) ht hs hz hz1 h1 rfl hd k
theorem r_lit_4 {t e : TypeId} {x0 x1 x2 x3 : Operand} {z v0 v1 v2 v3 : Value} (hF : Fr n ds a F) (hS : St w M) (h0 : evo F x0 = some v0) (h1' : evo F x1 = some v1) (h2' : evo F x2 = some v2) (h3' : evo F x3 = some v3) (ht : sliceB P t = some e) (hs : sizeB P e = some 1) (hz : ∀ w, (zeroValue e).run P w = .ok z w) (hz1 : z.cells.size = 1)
    (h1 : [v0, v1, v2, v3].all Value.oneCell' = true) (hd : dstOk n (some d) = true)
    (k : ∀ a' w' b, Fr n ds a' ((d, .slice (some ⟨b, 0, none⟩) 4 4) :: F) → St w' (rowA e 1 (.slice (some ⟨b, 0, none⟩) 4 4) [v0, v1, v2, v3] :: M) → wpList P ops Q rest a' w') :
    wpList P ops Q (⟨some d, .buildSlice t 4 #[(0, x0), (1, x1), (2, x2), (3, x3)], ty, pos, after, none⟩ :: rest) a w := r_lits (l := [(0, x0), (1, x1), (2, x2), (3, x3)]) (vs := [v0, v1, v2, v3]) hF hS (by simp only [evParts, h0, h1', h2', h3']; rfl) ht hs hz hz1 h1 rfl hd k
theorem r_lit_5 {t e : TypeId} {x0 x1 x2 x3 x4 : Operand} {z v0 v1 v2 v3 v4 : Value} (hF : Fr n ds a F) (hS : St w M) (h0 : evo F x0 = some v0) (h1' : evo F x1 = some v1) (h2' : evo F x2 = some v2) (h3' : evo F x3 = some v3) (h4' : evo F x4 = some v4) (ht : sliceB P t = some e) (hs : sizeB P e = some 1) (hz : ∀ w, (zeroValue e).run P w = .ok z w) (hz1 : z.cells.size = 1)
    (h1 : [v0, v1, v2, v3, v4].all Value.oneCell' = true) (hd : dstOk n (some d) = true)
    (k : ∀ a' w' b, Fr n ds a' ((d, .slice (some ⟨b, 0, none⟩) 5 5) :: F) → St w' (rowA e 1 (.slice (some ⟨b, 0, none⟩) 5 5) [v0, v1, v2, v3, v4] :: M) → wpList P ops Q rest a' w') :
    wpList P ops Q (⟨some d, .buildSlice t 5 #[(0, x0), (1, x1), (2, x2), (3, x3), (4, x4)], ty, pos, after, none⟩ :: rest) a w := r_lits (l := [(0, x0), (1, x1), (2, x2), (3, x3), (4, x4)]) (vs := [v0, v1, v2, v3, v4]) hF hS (by simp only [evParts, h0, h1', h2', h3', h4']; rfl) ht hs hz hz1 h1 rfl hd k
theorem r_lit_6 {t e : TypeId} {x0 x1 x2 x3 x4 x5 : Operand} {z v0 v1 v2 v3 v4 v5 : Value} (hF : Fr n ds a F) (hS : St w M) (h0 : evo F x0 = some v0) (h1' : evo F x1 = some v1) (h2' : evo F x2 = some v2) (h3' : evo F x3 = some v3) (h4' : evo F x4 = some v4) (h5' : evo F x5 = some v5) (ht : sliceB P t = some e) (hs : sizeB P e = some 1) (hz : ∀ w, (zeroValue e).run P w = .ok z w) (hz1 : z.cells.size = 1)
    (h1 : [v0, v1, v2, v3, v4, v5].all Value.oneCell' = true) (hd : dstOk n (some d) = true)
    (k : ∀ a' w' b, Fr n ds a' ((d, .slice (some ⟨b, 0, none⟩) 6 6) :: F) → St w' (rowA e 1 (.slice (some ⟨b, 0, none⟩) 6 6) [v0, v1, v2, v3, v4, v5] :: M) → wpList P ops Q rest a' w') :
    wpList P ops Q (⟨some d, .buildSlice t 6 #[(0, x0), (1, x1), (2, x2), (3, x3), (4, x4), (5, x5)], ty, pos, after, none⟩ :: rest) a w := r_lits (l := [(0, x0), (1, x1), (2, x2), (3, x3), (4, x4), (5, x5)]) (vs := [v0, v1, v2, v3, v4, v5]) hF hS (by simp only [evParts, h0, h1', h2', h3', h4', h5']; rfl) ht hs hz hz1 h1 rfl hd k
/-- A literal of bytes: a text of one's own. -/
theorem r_litT {t e : TypeId} {l : List (Nat × Operand)} {z : Value} {us : List UInt8} {len : Nat} (hF : Fr n ds a F) (hS : St w M) (hp : evParts F l = some (idxd 0 (us.map u8))) (hlen : us.length = len) (ht : sliceB P t = some e) (hs : sizeB P e = some 1) (hz : ∀ w, (zeroValue e).run P w = .ok z w) (hz1 : z.cells.size = 1)
    (hl : Nat.ble len 1000 = true) (hd : dstOk n (some d) = true)
    (k : ∀ a' w' b, Fr n ds a' ((d, tx (some ⟨b, 0, none⟩) len us) :: F) → St w' (txR e (some ⟨b, 0, none⟩) len us :: M) → wpList P ops Q rest a' w') :
    wpList P ops Q (⟨some d, .buildSlice t len l.toArray, ty, pos, after, none⟩ :: rest) a w := by
  subst hlen
  exact r_lit1 (vs := us.map u8) hF hS hp (by simp) ht hs hz hz1 (ones8 us) hl hd k

theorem r_litT1 {t e : TypeId} {x0 : Operand} {z : Value} {u : UInt8} (hF : Fr n ds a F) (hS : St w M) (h0 : evo F x0 = some (u8 u)) (ht : sliceB P t = some e) (hs : sizeB P e = some 1) (hz : ∀ w, (zeroValue e).run P w = .ok z w) (hz1 : z.cells.size = 1) (hd : dstOk n (some d) = true)
    (k : ∀ a' w' b, Fr n ds a' ((d, tx (some ⟨b, 0, none⟩) 1 [u]) :: F) → St w' (txR e (some ⟨b, 0, none⟩) 1 [u] :: M) → wpList P ops Q rest a' w') :
    wpList P ops Q (⟨some d, .buildSlice t 1 #[(0, x0)], ty, pos, after, none⟩ :: rest) a w := r_litT (l := [(0, x0)]) (us := [u]) hF hS (by simp only [evParts, h0]; rfl) rfl ht hs hz hz1 rfl hd k

/-! ### blocks of bytes, read as texts -/
theorem In.hereB {b T c : Nat} {bs : List UInt8} (hl : bs.length = c) : In (blkA b T (bs.map u8) :: M) (txA (some ⟨b, 0, none⟩) c bs) := by
  refine ⟨fun w hw => ?_⟩
  subst hl
  have := blkP.sl (o := 0) (m := bs.length) (c := bs.length) (sz := 1) hw.head (Nat.le_refl _) (by simp)
  rw [List.drop_zero, Nat.mul_one, List.take_of_length_le (by simp)] at this
  exact this
/-- An array of bytes, sliced. -/
theorem rv_arT {t e m : TypeId} {y : Operand} {b T : Nat} {bs : List UInt8} (hy : evo F y = some (.pointer (some ⟨b, 0, none⟩))) (ht : arrayB P t = some (m, e)) (hs : sizeB P e = some 1) (hp : (blkA b T (bs.map u8)).p w) (hl : bs.length = m) :
    RunV P F (.slice t y none none none) ty w (tx (some ⟨b, 0, none⟩) m bs) := by
  have := rv_subAr (ty := ty) (w := w) (lo := none) (hi := none) (mx := none) hy rfl rfl rfl ht hs (fun _ => bounds_no) (.inr rfl) rfl
  unfold tx
  rw [hl]
  simpa using this

/-! ### slices of whatever, where they lie unknown -/
theorem rv_ixG {t e : TypeId} {x y : Operand} {x0 : Option Addr} {m c sz o' : Nat} {cs : List Value} {kk : IntKind} {i : Int} {i' : Nat} (hx : evo F x = some (.slice x0 m c)) (hy : evo F y = some (.int kk i)) (ht : sliceB P t = some e) (hs : sizeB P e = some sz)
    (h0 : i = Int.ofNat i') (hp : (slA sz (.slice x0 m c) cs).p w) (h1 : i' < m) (ho : i' * sz = o') : RunV P F (.indexAddr t x y) ty w (txAt x0 o') := by
  subst ho
  have : ∃ g o, x0 = some ⟨g, o, none⟩ := by
    rcases hp with ⟨hv, _⟩ | ⟨g, o, m', c', cells, T, fr, hv, _⟩
    · simp only [Value.slice.injEq] at hv; omega
    · simp only [Value.slice.injEq] at hv; exact ⟨g, o, hv.1⟩
  obtain ⟨g, o, rfl⟩ := this
  have := rv_ixSl (ty := ty) (w := w) (o' := o + i' * sz) hx hy ht hs h0 h1 rfl
  simpa [txAt, add_none] using this
theorem rv_ldG {t : TypeId} {x : Operand} {x0 : Option Addr} {m c sz j : Nat} {cs : List Value} {v : Value} (hx : evo F x = some (txAt x0 j)) (hg : aggB P t = some false) (hp : (slA sz (.slice x0 m c) cs).p w) (hv : cs[j]? = some v) : RunV P F (.load t x) ty w v := by
  have hlt := (List.getElem?_eq_some_iff.mp hv).1
  have : ∃ g o, x0 = some ⟨g, o, none⟩ := by
    rcases hp with ⟨_, hc⟩ | ⟨g, o, m', c', cells, T, fr, hh, _⟩
    · rw [hc] at hlt; simp at hlt
    · simp only [Value.slice.injEq] at hh; exact ⟨g, o, hh.1⟩
  obtain ⟨g, o, rfl⟩ := this
  exact rv_load1 (by simpa [txAt, add_none] using hx) hg (slP.cell hp hv)
theorem rv_notb {x : Operand} {t : TypeId} {b : Bool} (hx : evo F x = some (.bool b)) : RunV P F (.unOp .not t x) ty w (.bool (!b)) := fun ρ hρ _ _ _ _ => by simp [execOp, hρ _ _ hx, Op.unary]
theorem rv_pickb {c x y : Operand} {p : Prop} [Decidable p] {v u : Value} (hc : evo F c = some (.bool (decide p))) (hx : evo F x = some v) (hy : evo F y = some u) : RunV P F (.pick c x y) ty w (if p then v else u) := by
  have := rv_pick (P := P) (ty := ty) (w := w) hc hx hy
  simpa using this

/-! ### what is read of many at once -/
/-- All of a list, read by whom it concerns and changed by nobody. -/
def allA (l : List Asrt) : Asrt where
  own := fun _ => False
  use := fun b => ∃ A ∈ l, A.own b ∨ A.use b
  p := fun w => ∀ A ∈ l, A.p w
  stab := fun w w' he hs h A hA => A.stab w w' he (fun b hb => hs b (.inr ⟨A, hA, hb⟩)) (h A hA)
  low := fun w h b hb => by
    simp only [false_or] at hb
    obtain ⟨A, hA, hb⟩ := hb
    exact A.low w (h A hA) b hb
theorem In.all {l : List Asrt} {A : Asrt} (h : In M (allA l)) (hA : A ∈ l) : In M A := ⟨fun w hw => h.1 w hw A hA⟩
theorem In.hereW {T sz : Nat} {v : Value} {cs : List Value} : In (rowA T sz v cs :: M) (slA sz v cs) := ⟨fun _ hw => rowP.sl hw.head⟩
theorem In.ofW {T sz : Nat} {v : Value} {cs : List Value} (h : In M (rowA T sz v cs)) : In M (slA sz v cs) := ⟨fun w hw => rowP.sl (h.1 w hw)⟩

structure Tx where
  x : Option Addr
  c : Nat
  b : List UInt8
def Tx.v (p : Tx) : Value := tx p.x p.c p.b
def Tx.A (p : Tx) : Asrt := txA p.x p.c p.b
/-- A slice of texts. -/
def txs (x : Option Addr) (c : Nat) (ps : List Tx) : Value := .slice x ps.length c
def txsA (x : Option Addr) (c : Nat) (ps : List Tx) : Asrt := allA (slA 1 (txs x c ps) (ps.map Tx.v) :: ps.map Tx.A)
def txsR (T : TypeId) (x : Option Addr) (c : Nat) (ps : List Tx) : Asrt := rowA T 1 (txs x c ps) (ps.map Tx.v)
theorem In.txsSl {x : Option Addr} {c : Nat} {ps : List Tx} (h : In M (txsA x c ps)) : In M (slA 1 (txs x c ps) (ps.map Tx.v)) := h.all (List.mem_cons_self ..)
theorem In.txsAt {x : Option Addr} {c : Nat} {ps : List Tx} (h : In M (txsA x c ps)) {p : Tx} (hp : p ∈ ps) : In M (txA p.x p.c p.b) := h.all (List.mem_cons_of_mem _ (List.mem_map_of_mem (f := Tx.A) hp))
theorem rv_lenTs {x : Operand} {x0 : Option Addr} {c0 : Nat} {ps : List Tx} {t e : TypeId} (hx : evo F x = some (txs x0 c0 ps)) (ht : P.underlying t = some (.slice e)) :
    RunV P F (.call { callee := .builtin .len, args := #[x], argTypes := #[t] }) ty w (.int .i64 (ps.length : Int)) := rv_len (v := x0) (c := c0) hx ht
theorem rv_ixTs {t e : TypeId} {x y : Operand} {x0 : Option Addr} {c0 : Nat} {ps : List Tx} {kk : IntKind} {i : Int} {i' : Nat} (hx : evo F x = some (txs x0 c0 ps)) (hy : evo F y = some (.int kk i)) (ht : sliceB P t = some e) (hs : sizeB P e = some 1)
    (h0 : i = Int.ofNat i') (hp : (slA 1 (txs x0 c0 ps) (ps.map Tx.v)).p w) (h1 : i' < ps.length) : RunV P F (.indexAddr t x y) ty w (txAt x0 i') :=
  rv_ixG (sz := 1) hx hy ht hs h0 hp h1 (Nat.mul_one _)
theorem rv_ldTs {t : TypeId} {x : Operand} {x0 : Option Addr} {c0 : Nat} {ps : List Tx} {i' : Nat} {q : Tx} (hx : evo F x = some (txAt x0 i')) (hg : aggB P t = some false) (hp : (slA 1 (txs x0 c0 ps) (ps.map Tx.v)).p w) (hu : ps[i']? = some q) : RunV P F (.load t x) ty w (tx q.x q.c q.b) :=
  rv_ldG hx hg hp (by rw [List.getElem?_map, hu]; rfl)
/-- A text more behind a slice of texts. -/
theorem r_appTs {t e : TypeId} {x y : Operand} {z : Value} {c0 c1 m1 : Nat} {x0 x1 : Option Addr} {ps : List Tx} {xq : Option Addr} {cq : Nat} {bq : List UInt8} {bytes : Nat} (hF : Fr n ds a F) (hS : St w M) (hx : evo F x = some (txs x0 c0 ps)) (hy : evo F y = some (.slice x1 m1 c1)) (hr : Rm M (txsR e x0 c0 ps) R) (hn : In M (slA 1 (.slice x1 m1 c1) [tx xq cq bq]))
    (ht : sliceB P t = some e) (hi : elemB P e = some (z, 1, bytes)) (hzs : z.cells.size = 1) (hby : Nat.ble bytes 100 = true)
    (hb : ps.length + 1 ≤ 1200000000000) (hd : dstOk n (some d) = true)
    (k : ∀ a' w' x' c', Fr n ds a' ((d, txs x' c' (ps ++ [⟨xq, cq, bq⟩])) :: F) → St w' (txsR e x' c' (ps ++ [⟨xq, cq, bq⟩]) :: R) → wpList P ops Q rest a' w') :
    wpList P ops Q (⟨some d, .call { callee := .builtin .append, args := #[x, y], argTypes := #[t, t] }, ty, pos, after, none⟩ :: rest) a w := by
  have hm : m1 = 1 := by
    obtain ⟨_, m', c', he, _, hl⟩ := slP.len (hS.get hn)
    simp only [Value.slice.injEq] at he
    simp at hl; omega
  subst hm
  have hb' : bytes ≤ 100 := Nat.ble_eq.mp hby
  have hbb : (ps.length + 1) * bytes ≤ 1200000000000 * 100 := Nat.mul_le_mul hb hb'
  refine r_append hF hS hx hy hr (hS.get hn) ht hi hzs rfl (by omega) (by omega) hd fun a' w' x' c' h1 h2 => k a' w' x' c' ?_ ?_
  · unfold txs; rw [List.length_append]; exact h1
  · unfold txsR txs; rw [List.length_append, List.map_append]; exact h2
theorem St.nilTs {T : TypeId} (h : St w M) : St w (txsR T none 0 [] :: M) := h.nilRow

theorem In.hereTs {T : TypeId} {x : Option Addr} {c : Nat} {ps : List Tx} : In (txsR T x c ps :: M) (slA 1 (txs x c ps) (ps.map Tx.v)) := ⟨fun _ hw => rowP.sl hw.head⟩

theorem rv_nilT : RunV P F (.assign (.const (.slice none 0 0))) ty w (tx none 0 []) := rv_assign rfl
theorem rv_nilTs : RunV P F (.assign (.const (.slice none 0 0))) ty w (txs none 0 []) := rv_assign rfl

theorem In.txNils : In M (txsA none 0 []) := ⟨fun w _ A hA => by
  simp only [List.map_nil, List.mem_cons, List.not_mem_nil, or_false] at hA
  subst hA
  exact .inl ⟨rfl, rfl⟩⟩

/-! ### nothing, or something -/
theorem eqIn_slnil {t e : TypeId} {x : Option Addr} {m c : Nat} (d : Nat) (ht : P.underlying t = some (.slice e)) : (Op.equalIn (d + 1) t (.slice x m c) (.slice none 0 0)).run P w = .ok (decide (x = none)) w := by
  cases x <;> simp [Op.equalIn, run_underlying ht]
theorem eqIn_ptrnil {t e : TypeId} {x : Option Addr} (d : Nat) (ht : P.underlying t = some (.pointer e)) : (Op.equalIn (d + 1) t (.pointer x) (.pointer none)).run P w = .ok (decide (x = none)) w := by
  cases x <;> simp [Op.equalIn, run_underlying ht]
theorem bin_of_eqIn {t : TypeId} {X Y : Value} {b : Bool} (hX : ∀ w (x y : Operand), (eqGuard .eql t x y X Y).run P w = .ok () w) (hb : binOp .eql t X Y = (do pure (.bool (← Op.equal t X Y)))) (h : ∀ w, (Op.equalIn (9999 + 1) t X Y).run P w = .ok b w) : BinV P .eql t X Y (.bool b) := fun w x y => by
  rw [Sem.run_bind, hX w x y]
  simp only [Result.andThen_ok, hb, show Op.equal t X Y = Op.equalIn (9999 + 1) t X Y from rfl, Sem.run_bind, h w, Sem.run_pure]
theorem bin_of_neIn {t : TypeId} {X Y : Value} {b : Bool} (hX : ∀ w (x y : Operand), (eqGuard .neq t x y X Y).run P w = .ok () w) (hb : binOp .neq t X Y = (do pure (.bool (!(← Op.equal t X Y))))) (h : ∀ w, (Op.equalIn (9999 + 1) t X Y).run P w = .ok b w) : BinV P .neq t X Y (.bool (!b)) := fun w x y => by
  rw [Sem.run_bind, hX w x y]
  simp only [Result.andThen_ok, hb, show Op.equal t X Y = Op.equalIn (9999 + 1) t X Y from rfl, Sem.run_bind, h w, Sem.run_pure]
theorem bin_slnil_eql {t e : TypeId} {x : Option Addr} {m c : Nat} (ht : P.underlying t = some (.slice e)) : BinV P .eql t (.slice x m c) (.slice none 0 0) (.bool (decide (x = none))) :=
  bin_of_eqIn (fun w a b => by simp [eqGuard]) rfl (fun w => eqIn_slnil 9999 ht)
theorem bin_slnil_neq {t e : TypeId} {x : Option Addr} {m c : Nat} (ht : P.underlying t = some (.slice e)) : BinV P .neq t (.slice x m c) (.slice none 0 0) (.bool (decide (x ≠ none))) := by
  have := bin_of_neIn (P := P) (t := t) (X := .slice x m c) (Y := .slice none 0 0) (fun w a b => by simp [eqGuard]) rfl (fun w => eqIn_slnil 9999 ht)
  rw [show (!decide (x = none)) = decide (x ≠ none) by simp] at this; exact this
theorem bin_ptrnil_eql {t e : TypeId} {x : Option Addr} (ht : P.underlying t = some (.pointer e)) : BinV P .eql t (.pointer x) (.pointer none) (.bool (decide (x = none))) :=
  bin_of_eqIn (fun w a b => by simp [eqGuard]) rfl (fun w => eqIn_ptrnil 9999 ht)
theorem bin_ptrnil_neq {t e : TypeId} {x : Option Addr} (ht : P.underlying t = some (.pointer e)) : BinV P .neq t (.pointer x) (.pointer none) (.bool (decide (x ≠ none))) := by
  have := bin_of_neIn (P := P) (t := t) (X := .pointer x) (Y := .pointer none) (fun w a b => by simp [eqGuard]) rfl (fun w => eqIn_ptrnil 9999 ht)
  rw [show (!decide (x = none)) = decide (x ≠ none) by simp] at this; exact this
theorem bin_txnil_eql {t e : TypeId} {x : Option Addr} {c : Nat} {b : List UInt8} (ht : P.underlying t = some (.slice e)) : BinV P .eql t (tx x c b) (.slice none 0 0) (.bool (decide (x = none))) := bin_slnil_eql ht
theorem bin_txnil_neq {t e : TypeId} {x : Option Addr} {c : Nat} {b : List UInt8} (ht : P.underlying t = some (.slice e)) : BinV P .neq t (tx x c b) (.slice none 0 0) (.bool (decide (x ≠ none))) := bin_slnil_neq ht
theorem bin_tseql {t : TypeId} {b d : List UInt8} : BinV P .eql t (.string ⟨b.toArray⟩) (.string ⟨d.toArray⟩) (.bool (decide (b = d))) := by
  have := bin_seql (P := P) (t := t) (s := ⟨b.toArray⟩) (u := ⟨d.toArray⟩)
  have e : decide ((⟨b.toArray⟩ : ByteArray) = ⟨d.toArray⟩) = decide (b = d) := decide_eq_decide.mpr (by simp)
  rw [e] at this; exact this
theorem bin_tsneq {t : TypeId} {b d : List UInt8} : BinV P .neq t (.string ⟨b.toArray⟩) (.string ⟨d.toArray⟩) (.bool (decide (b ≠ d))) := by
  have := bin_sneq (P := P) (t := t) (s := ⟨b.toArray⟩) (u := ⟨d.toArray⟩)
  have e : decide ((⟨b.toArray⟩ : ByteArray) ≠ ⟨d.toArray⟩) = decide (b ≠ d) := decide_eq_decide.mpr (by simp)
  rw [e] at this; exact this
theorem txP_nil {c : Nat} {b : List UInt8} (h : (txA none c b).p w) : c = 0 ∧ b = [] := by
  rcases h with ⟨hv, _⟩ | ⟨g, o, m', c', cells, T, fr, hv, _⟩
  · unfold tx at hv
    simp only [Value.slice.injEq] at hv
    exact ⟨hv.2.2, List.eq_nil_of_length_eq_zero hv.2.1⟩
  · unfold tx at hv; simp only [Value.slice.injEq] at hv; cases hv.1

/-! ### what is read by many, gathered -/
theorem St.join {A B C : Asrt} (h : St w (A :: B :: R)) (hp : C.p w) (ho : ∀ b, ¬ C.own b) (hu : ∀ b, C.use b → (A.own b ∨ A.use b) ∨ (B.own b ∨ B.use b)) : St w (C :: R) := by
  have h1 := List.pairwise_cons.mp h.ap
  have h2 := List.pairwise_cons.mp h1.2
  refine ⟨fun D hD => ?_, List.pairwise_cons.mpr ⟨fun D hD b => ⟨fun hb => (ho b hb).elim, fun hb hc => ?_⟩, h2.2⟩⟩
  · rcases List.mem_cons.mp hD with rfl | hD
    · exact hp
    · exact h.p D (by simp [hD])
  · rcases hc with hc | hc
    · exact ho b hc
    · rcases hu b hc with hc | hc
      · exact ((h1.1 D (by simp [hD])) b).2 hb hc
      · exact ((h2.1 D hD) b).2 hb hc
theorem St.allNil (h : St w M) : St w (allA [] :: M) := by
  refine h.new (Env.refl w) (fun _ _ => rfl) (fun A hA => by cases hA) (fun b hb => hb.elim) (fun b hb => ?_)
  obtain ⟨A, hA, _⟩ := hb; cases hA
theorem St.allSnoc {l : List Asrt} {A : Asrt} (h : St w (A :: allA l :: R)) : St w (allA (l ++ [A]) :: R) := by
  refine h.join (fun B hB => ?_) (fun _ hb => hb.elim) (fun b hb => ?_)
  · rcases List.mem_append.mp hB with hB | hB
    · exact (h.p (allA l) (by simp)) B hB
    · rcases List.mem_singleton.mp hB with rfl
      exact h.head
  · obtain ⟨B, hB, hb⟩ := hb
    rcases List.mem_append.mp hB with hB | hB
    · exact .inr (.inr ⟨B, hB, hb⟩)
    · rcases List.mem_singleton.mp hB with rfl
      exact .inl hb
theorem St.allTx {x : Option Addr} {c : Nat} {b : List UInt8} {ps : List Tx} (h : St w (txA x c b :: allA (ps.map Tx.A) :: R)) : St w (allA ((ps ++ [(⟨x, c, b⟩ : Tx)]).map Tx.A) :: R) := by
  rw [List.map_append]; exact h.allSnoc
/-- A slice of texts of one's own, and these: read by whom it concerns. -/
theorem St.sealTs {T : TypeId} {x : Option Addr} {c : Nat} {ps : List Tx} (h : St w (txsR T x c ps :: allA (ps.map Tx.A) :: R)) : St w (txsA x c ps :: R) := by
  have h := St.seal h
  refine h.join (fun B hB => ?_) (fun _ hb => hb.elim) (fun b hb => ?_)
  · rcases List.mem_cons.mp hB with rfl | hB
    · exact h.head
    · exact (h.p (allA (ps.map Tx.A)) (by simp)) B hB
  · obtain ⟨B, hB, hb⟩ := hb
    rcases List.mem_cons.mp hB with rfl | hB
    · exact .inl hb
    · exact .inr (.inr ⟨B, hB, hb⟩)
theorem In.allAt {ps : List Tx} (h : In M (allA (ps.map Tx.A))) {p : Tx} (hp : p ∈ ps) : In M (txA p.x p.c p.b) := h.all (A := Tx.A p) (List.mem_map_of_mem hp)

theorem r_part' {o : Oper} {g : Nat × Bool} {oj : Oper} {t : Nat} {p : Prop} {inst : Decidable p} (hF : Fr n ds a F) (hg : o.guard = some g) (hj : ops[g.1]? = some oj) (ht : oj.dst = some t) (hv : lk F t = some (.bool (decide p)))
    (k1 : p → Fr n ds a ((t, .bool true) :: F) → wpList P ops Q (o :: rest) a w) (k2 : ¬ p → Fr n ds a ((t, .bool false) :: F) → wpList P ops Q (o :: rest) a w) : wpList P ops Q (o :: rest) a w := r_part hF hg hj ht hv k1 k2
theorem sg_part' {C : World → Prop} {q : Nat → Bool} {l : List Oper} {i t : Nat} {k : Sg} {op : Op} {g : Nat × Bool} {p : Prop} {dst : Option Tmp} {inst : Decidable p} {oj : Oper} (hF : Fr n ds a F) (hi : nth l i = some ⟨dst, op, ty, pos, after, some g⟩) (hj : nth l g.1 = some oj) (ht : oj.dst = some t) (hv : lk F t = some (.bool (decide p)))
    (k1 : p → Fr n ds a ((t, .bool true) :: F) → wpSg P l C q Q (.take i k) a w) (k2 : ¬ p → Fr n ds a ((t, .bool false) :: F) → wpSg P l C q Q (.take i k) a w) : wpSg P l C q Q (.take i k) a w := sg_part hF hi hj ht hv k1 k2

theorem rv_not' {x : Operand} {t : TypeId} {p : Prop} {inst : Decidable p} (hx : evo F x = some (.bool (decide p))) : RunV P F (.unOp .not t x) ty w (.bool (decide (¬ p))) := rv_not hx

theorem wrap_n64u64 {m : Nat} (h : m ≤ 9223372036854775807) : IntKind.u64.wrap (m : Int) = ((UInt64.ofNat m).toNat : Int) := by
  rw [wrap_u64]; simp

theorem sg_pass' {C : World → Prop} {q : Nat → Bool} {l : List Oper} {i j t : Nat} {b c : Bool} {k : Sg} {op : Op} {oj : Oper} (hF : Fr n ds a F) (hi : nth l i = some ⟨some d, op, ty, pos, after, some (j, b)⟩)
    (hj : nth l j = some oj) (ht : oj.dst = some t) (hv : lk F t = some (.bool c)) (hc : c = !b) (hC : NeedC C (q i) w) (hd : dstOk n (some d) = true)
    (h : NextF n ds ((d, undef) :: F) (fun a' => wpSg P l C q Q k a' w)) : wpSg P l C q Q (.take i k) a w :=
  sg_pass hF hi hj ht hv (by subst hc; cases b <;> rfl) hC hd h
theorem sg_passu' {C : World → Prop} {q : Nat → Bool} {l : List Oper} {i j t : Nat} {b : Bool} {k : Sg} {op : Op} {oj : Oper} (hF : Fr n ds a F) (hi : nth l i = some ⟨some d, op, ty, pos, after, some (j, b)⟩)
    (hj : nth l j = some oj) (ht : oj.dst = some t) (hv : lk F t = some undef) (hC : NeedC C (q i) w) (hd : dstOk n (some d) = true)
    (h : NextF n ds ((d, undef) :: F) (fun a' => wpSg P l C q Q k a' w)) : wpSg P l C q Q (.take i k) a w :=
  sg_pass hF hi hj ht hv rfl hC hd h

/-- append behind nothing. -/
theorem r_appT0 {t e : TypeId} {x y : Operand} {z : Value} {bytes c1 : Nat} {x1 : Option Addr} {b1 : List UInt8} (hF : Fr n ds a F) (hS : St w M) (hx : evo F x = some (tx none 0 [])) (hy : evo F y = some (tx x1 c1 b1)) (hn : In M (txA x1 c1 b1))
    (ht : sliceB P t = some e) (hi : elemB P e = some (z, 1, bytes)) (hzs : z.cells.size = 1) (hby : Nat.beq bytes 1 = true)
    (hb : b1.length ≤ 140737488355328) (hd : dstOk n (some d) = true)
    (k : ∀ a' w' x' c', Fr n ds a' ((d, tx x' c' b1) :: F) → St w' (txR e x' c' b1 :: M) → wpList P ops Q rest a' w') :
    wpList P ops Q (⟨some d, .call { callee := .builtin .append, args := #[x, y], argTypes := #[t, t] }, ty, pos, after, none⟩ :: rest) a w :=
  r_appT hF (hS.nilTx (T := e)) hx hy Rm.here hn.there ht hi hzs hby (by simpa using hb) hd k
theorem r_appTs0 {t e : TypeId} {x y : Operand} {z : Value} {c1 m1 : Nat} {x1 : Option Addr} {xq : Option Addr} {cq : Nat} {bq : List UInt8} {bytes : Nat} (hF : Fr n ds a F) (hS : St w M) (hx : evo F x = some (txs none 0 [])) (hy : evo F y = some (.slice x1 m1 c1)) (hn : In M (slA 1 (.slice x1 m1 c1) [tx xq cq bq]))
    (ht : sliceB P t = some e) (hi : elemB P e = some (z, 1, bytes)) (hzs : z.cells.size = 1) (hby : Nat.ble bytes 100 = true) (hd : dstOk n (some d) = true)
    (k : ∀ a' w' x' c', Fr n ds a' ((d, txs x' c' [⟨xq, cq, bq⟩]) :: F) → St w' (txsR e x' c' [⟨xq, cq, bq⟩] :: M) → wpList P ops Q rest a' w') :
    wpList P ops Q (⟨some d, .call { callee := .builtin .append, args := #[x, y], argTypes := #[t, t] }, ty, pos, after, none⟩ :: rest) a w :=
  r_appTs hF (hS.nilTs (T := e)) hx hy Rm.here hn.there ht hi hzs hby (by simp) hd k

/-- A region that draws its order, the class of what is read in it told. -/
theorem r_drawC {id : Nat} {l : List Oper} {M0 : List Asrt} (g : Sg) (q : Nat → Bool) (hm : P.follows .mixedOrders = true) (hs : Region.noSelect l.toArray = true) (hg : g.ok l.toArray l.length (Array.replicate l.length false) = true) (hp : PanicOk Q)
    (hF : Fr n ds a F) (hS : St w M) (h : ∀ w, Fr n ds a F → St w M → wpSg P l (Has M0) q Q g a w) : (Code.region id l.toArray true).wp P Q a w := by
  refine wp_region_any hm (wpC_any _ _ _ _ ((wpC_of_sg (C := Has M0) (q := q) hs hp g).1 _ _ _ _ ?_ (h _ hF ?_)))
  · simpa [Sg.ok] using hg
  · exact hS.still ⟨rfl, rfl, rfl, Nat.le_refl _⟩ (fun _ _ => rfl)

/-- A whole block, read as a slice. -/
theorem In.hereBs {b T sz m : Nat} {cs : List Value} (hl : cs.length = m * sz) : In (blkA b T cs :: M) (slA sz (.slice (some ⟨b, 0, none⟩) m m) cs) := by
  refine ⟨fun w hw => ?_⟩
  have := blkP.sl (o := 0) (m := m) (c := m) (sz := sz) hw.head (Nat.le_refl _) (by omega)
  rw [List.drop_zero, List.take_of_length_le (by omega)] at this
  exact this

end Go.Bz
