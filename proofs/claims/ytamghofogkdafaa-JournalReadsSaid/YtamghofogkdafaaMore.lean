/- More rules: rows of great elements, structs that are built, functions as values, bytes that are laid over others. No condition: a library of lemmas. -/
import Derived.Test.YtamghofogkdafaaText
namespace Go.Bz
set_option linter.unusedVariables false

variable {n : Nat} {ds : List Deferred} {a : Act} {F : List (Nat × Value)} {P : Program} {ops : Array Oper} {Q : Exit → Act → World → Prop} {rest : List Oper} {w w' : World}
variable {d : Nat} {ty : TypeId} {pos : String} {after : Array Edge} {M R : List Asrt}

/-- Bytes laid over others, from a place on. -/
def lay (S : List UInt8) (o : Nat) (b : List UInt8) : List UInt8 := S.take o ++ b ++ S.drop (o + b.length)
theorem lay_len (S : List UInt8) (o : Nat) (b : List UInt8) (h : o + b.length ≤ S.length) : (lay S o b).length = S.length := by
  unfold lay; simp; omega
theorem lay_take (S : List UInt8) (o : Nat) (b : List UInt8) (k : Nat) (h : o + b.length ≤ S.length) (hk : k ≤ o) : (lay S o b).take k = S.take k := by
  unfold lay
  rw [List.append_assoc, List.take_append_of_le_length (by rw [List.length_take]; omega), List.take_take, Nat.min_eq_left hk]
theorem lay_drop (S : List UInt8) (o : Nat) (b : List UInt8) (k : Nat) (h : o + b.length ≤ S.length) (hk : o + b.length ≤ k) : (lay S o b).drop k = S.drop k := by
  unfold lay
  have hl : (S.take o ++ b).length = o + b.length := by rw [List.length_append, List.length_take]; omega
  rw [List.drop_append, List.drop_eq_nil_of_le (by omega), List.nil_append, List.drop_drop, hl]
  congr 1; omega
theorem lay_at (S : List UInt8) (o : Nat) (b : List UInt8) (h : o + b.length ≤ S.length) : ((lay S o b).drop o).take b.length = b := by
  unfold lay
  have hl : (S.take o).length = o := by rw [List.length_take]; omega
  rw [List.append_assoc, List.drop_append_of_le_length (by omega), List.drop_eq_nil_of_le (by omega), List.nil_append, List.take_append_of_le_length (Nat.le_refl _), List.take_length]
theorem lay_nil (S : List UInt8) (o : Nat) : lay S o [] = S := by unfold lay; simp
theorem lay_app (S : List UInt8) (o : Nat) (b d : List UInt8) (h : o + b.length + d.length ≤ S.length) : lay (lay S o b) (o + b.length) d = lay S o (b ++ d) := by
  have h1 : (lay S o b).take (o + b.length) = S.take o ++ b := by
    unfold lay
    have hl : (S.take o ++ b).length = o + b.length := by rw [List.length_append, List.length_take]; omega
    rw [List.take_append_of_le_length (by omega), List.take_of_length_le (by omega)]
  have h2 := lay_drop S o b (o + b.length + d.length) (by omega) (by omega)
  show (lay S o b).take (o + b.length) ++ d ++ (lay S o b).drop (o + b.length + d.length) = _
  rw [h1, h2]
  unfold lay
  simp [List.append_assoc, Nat.add_assoc]

/-! ### make -/
theorem made_rep (k m : Nat) (z : Value) (hk : 0 < k) : madeCells (List.replicate k z).toArray m = (List.replicate m z).toArray := by
  unfold madeCells
  apply Array.ext
  · simp
  · intro i h1 h2
    have : i % k < k := Nat.mod_lt _ hk
    simp [this]
/-- make of elements of several cells each, all alike. -/
theorem r_makeN {t e : TypeId} {x y : Operand} {j kk : IntKind} {l : Int} {l' sz : Nat} {z u : Value} {bytes : Nat} (hF : Fr n ds a F) (hS : St w M) (hx : evo F x = some (.int j l)) (hy : evo F y = some (.int kk l)) (hl : l = Int.ofNat l') (ht : sliceB P t = some e)
    (hi : elemB P e = some (z, sz, bytes)) (hz : z.cells = (List.replicate sz u).toArray) (hsz : Nat.blt 0 sz = true) (hu : u.oneCell' = true) (hb : bytes * l' ≤ 281474976710656) (h63 : l' ≤ 9223372036854775807) (hd : dstOk n (some d) = true)
    (k : ∀ a' w' b, Fr n ds a' ((d, .slice (some ⟨b, 0, none⟩) l' l') :: F) → St w' (blkA b e (List.replicate (l' * sz) u) :: M) → wpList P ops Q rest a' w') : wpList P ops Q (⟨some d, .makeSlice t x y, ty, pos, after, none⟩ :: rest) a w := by
  obtain ⟨i, hi1, hi2, hi3, hi4⟩ := elemB_info hi
  subst hl
  have hr := run_make (P := P) w t e i z (sliceB_spec ht) hi1 hi2 j kk l' l' (by omega) (Int.le_refl _) (by rw [hi4, ← Int.natCast_mul]; omega) (by omega)
  rw [hz, made_rep _ _ _ (Nat.blt_eq.mp hsz), hi3] at hr
  simp only [Int.toNat_natCast] at hr
  refine r_run (w' := w.alloc (.cells (List.replicate (l' * sz) u).toArray e)) hF hd ?_ (fun a' h => k a' _ _ h (hS.alloc (fun v hv => (List.mem_replicate.mp hv).2 ▸ hu)))
  simp [execOp, hF.eval hx, hF.eval hy, hr]
/-- make of no bytes, with room for some. -/
theorem r_makeC {t e : TypeId} {x y : Operand} {j kk : IntKind} {l : Int} {l' : Nat} {z : Value} {bytes : Nat} (hF : Fr n ds a F) (hS : St w M) (hx : evo F x = some (.int j 0)) (hy : evo F y = some (.int kk l)) (hl : l = Int.ofNat l') (ht : sliceB P t = some e)
    (hi : elemB P e = some (z, 1, bytes)) (hz : z.oneCell' = true) (hb : bytes * l' ≤ 281474976710656) (h63 : l' ≤ 140737488355328) (hd : dstOk n (some d) = true)
    (k : ∀ a' w' b, Fr n ds a' ((d, tx (some ⟨b, 0, none⟩) l' []) :: F) → St w' (txR e (some ⟨b, 0, none⟩) l' [] :: M) → wpList P ops Q rest a' w') : wpList P ops Q (⟨some d, .makeSlice t x y, ty, pos, after, none⟩ :: rest) a w := by
  obtain ⟨i, hi1, hi2, hi3, hi4⟩ := elemB_info hi
  subst hl
  have hcs : z.cells = (List.replicate 1 z).toArray := by cases z <;> simp_all [Value.cells, Value.oneCell']
  have hr := run_make (P := P) w t e i z (sliceB_spec ht) hi1 hi2 j kk 0 l' (by omega) (by exact Int.natCast_nonneg _) (by rw [hi4, ← Int.natCast_mul]; omega) (by omega)
  rw [hcs, made_rep _ _ _ (by omega), hi3] at hr
  simp only [Int.toNat_natCast, Nat.mul_one] at hr
  have hz0 : (0 : Int).toNat = 0 := rfl
  rw [hz0] at hr
  refine r_run (v := tx (some ⟨w.heap.size, 0, none⟩) l' []) (w' := w.alloc (.cells (List.replicate l' z).toArray e)) hF hd ?_ (fun a' h => k a' _ w.heap.size h ?_)
  · simp [execOp, hF.eval hx, hF.eval hy, hr]; rfl
  · have := (hS.alloc (T := e) (c := List.replicate l' z) (fun v hv => (List.mem_replicate.mp hv).2 ▸ hz)).rowB (m := 0) (c := l') (sz := 1) (Nat.zero_le _) (by simp only [maxLen]; omega) (by simp)
    rw [show List.take (0 * 1) (List.replicate l' z) = [] by simp] at this
    exact this

/-! ### structs that are built -/
def putAt (cs : List Value) (off : Nat) (vs : List Value) : List Value := cs.take off ++ vs ++ cs.drop (off + vs.length)
theorem foldl_put (vs : List Value) : ∀ (j off : Nat) (cs : List Value), off + j + vs.length ≤ cs.length →
    (vs.zipIdx j).foldl (fun (cs : Array Value) (x : Value × Nat) => cs.setIfInBounds (off + x.2) x.1) cs.toArray = (putAt cs (off + j) vs).toArray := by
  induction vs with
  | nil => intro j off cs h; simp [putAt]
  | cons v vs ih =>
    intro j off cs h
    simp only [List.length_cons] at h
    simp only [List.zipIdx_cons, List.foldl_cons, List.setIfInBounds_toArray]
    rw [ih (j + 1) off (cs.set (off + j) v) (by simp; omega)]
    congr 1
    unfold putAt
    rw [show off + (j + 1) = off + j + 1 by omega]
    have e1 : (cs.set (off + j) v).take (off + j + 1) = cs.take (off + j) ++ [v] := by
      rw [List.take_set, List.take_add_one, List.getElem?_eq_getElem (by omega), List.set_append, if_neg (by rw [List.length_take]; omega), List.length_take]
      rw [show off + j - min (off + j) cs.length = 0 by omega]; rfl
    have e2 : (cs.set (off + j) v).drop (off + j + 1 + vs.length) = cs.drop (off + j + 1 + vs.length) := by
      rw [List.drop_set]; simp; intro hh; omega
    rw [e1, e2]
    simp [List.append_assoc, Nat.add_assoc, Nat.add_comm]
    omega
theorem fill_step1 {place : Nat → Option (Nat × Nat)} {cs vs : List Value} {i off : Nat} {v : Value} {rest : List (Nat × Value)} (hp : place i = some (off, vs.length)) (hv : v.cells = vs.toArray) (hl : off + vs.length ≤ cs.length) :
    Instr.fill place cs.toArray ((i, v) :: rest) = Instr.fill place (putAt cs off vs).toArray rest := by
  have hf := foldl_put vs 0 off cs (by omega)
  simp only [Instr.fill, hp, hv]
  rw [if_neg (by simp; omega)]
  congr 1
  have : (vs.toArray.zipIdx.foldl (fun (cs : Array Value) (x : Value × Nat) => cs.setIfInBounds (off + x.2) x.1) cs.toArray) = (vs.zipIdx 0).foldl (fun (cs : Array Value) (x : Value × Nat) => cs.setIfInBounds (off + x.2) x.1) cs.toArray := by
    rw [← Array.foldl_toList, Array.toList_zipIdx]
  exact this.trans hf
theorem fill_nil {place : Nat → Option (Nat × Nat)} {cs : Array Value} : Instr.fill place cs [] = some cs := rfl

/-! ### a block's parts -/
theorem rv_ldB {t : TypeId} {x : Operand} {b o m : Nat} {T : TypeId} {C cs : List Value} (hx : evo F x = some (.pointer (some ⟨b, o, none⟩))) (hg : aggB P t = some true) (hs : sizeB P t = some m) (hp : (blkA b T C).p w) (hc : (C.drop o).take m = cs) (hl : cs.length = m) :
    RunV P F (.load t x) ty w (.agg cs.toArray) := by
  subst hl
  refine rv_loadN hx hg hs (fun j u hj => ?_)
  rw [← hc, List.getElem?_take] at hj
  split at hj
  · rw [List.getElem?_drop] at hj
    have hb : w.heap[b]? = some (.cells C.toArray T (0, 0)) := hp.1
    simp [World.cell?, hb, hj]
  · cases hj
theorem rv_ldBu {t : TypeId} {x : Operand} {b o m : Nat} {T : TypeId} {S : List UInt8} (hx : evo F x = some (.pointer (some ⟨b, o, none⟩))) (hg : aggB P t = some true) (hs : sizeB P t = some m) (hp : (blkA b T (S.map u8)).p w) (hl : o + m ≤ S.length) :
    RunV P F (.load t x) ty w (.agg (((S.drop o).take m).map u8).toArray) :=
  rv_ldB hx hg hs hp (by rw [List.map_take, List.map_drop]) (by simp; omega)
theorem r_storeBu {t : TypeId} {x y : Operand} {b o m : Nat} {T : TypeId} {S v : List UInt8} (hF : Fr n ds a F) (hS : St w M) (hx : evo F x = some (.pointer (some ⟨b, o, none⟩))) (hy : evo F y = some (.agg (v.map u8).toArray)) (hr : Rm M (blkA b T (S.map u8)) R)
    (hs : sizeB P t = some m) (hv : v.length = m) (ho : o + m ≤ S.length)
    (k : ∀ a' w', Fr n ds a' F → St w' (blkA b T ((lay S o v).map u8) :: R) → wpList P ops Q rest a' w') : wpList P ops Q (⟨none, .store t x y, ty, pos, after, none⟩ :: rest) a w := by
  subst hv
  refine r_storeN hF hS hx hy hr (by rw [hs, List.length_map]) (ones8 v) (by simp; omega) (fun a' w' h1 h2 => k a' w' h1 ?_)
  unfold lay
  simpa [List.map_take, List.map_drop] using h2
/-- Bytes copied into a block of bytes. -/
theorem r_copyBu {dT sT e : TypeId} {x y : Operand} {b o dl dc : Nat} {T : TypeId} {S v : List UInt8} {xs : Option Addr} {cs : Nat} (hF : Fr n ds a F) (hS : St w M) (hx : evo F x = some (.slice (some ⟨b, o, none⟩) dl dc)) (hy : evo F y = some (tx xs cs v)) (hr : Rm M (blkA b T (S.map u8)) R) (hn : In M (txA xs cs v))
    (ht : sliceB P dT = some e) (hs : sizeB P e = some 1) (ho : o + dl ≤ S.length) (hd : dstOk n (some d) = true)
    (k : ∀ a' w', Fr n ds a' ((d, .int .i64 ((min v.length dl : Nat) : Int)) :: F) → St w' (blkA b T ((lay S o (v.take dl)).map u8) :: R) → wpList P ops Q rest a' w') :
    wpList P ops Q (⟨some d, .call { callee := .builtin .copy, args := #[x, y], argTypes := #[dT, sT] }, ty, pos, after, none⟩ :: rest) a w := by
  refine r_copy hF hS hx hy hr (hS.get hn) ht hs (by simp; omega) hd (fun a' w' h1 h2 => k a' w' h1 ?_)
  have e : List.take o (List.map u8 S) ++ List.take (min v.length dl) (List.map u8 v) ++ List.drop (o + min v.length dl) (List.map u8 S) = (lay S o (v.take dl)).map u8 := by
    unfold lay
    simp only [List.map_append, List.map_take, List.map_drop, List.length_take]
    congr 2
    · rw [← List.map_take, ← List.map_take]
      congr 1
      rcases Nat.le_total v.length dl with h | h
      · rw [Nat.min_eq_left h, List.take_length, List.take_of_length_le h]
      · rw [Nat.min_eq_right h]
    · rw [Nat.min_comm]
  rw [e] at h2; exact h2
theorem r_copyBun {dT sT e : TypeId} {x y : Operand} {b o dl dc : Nat} {T : TypeId} {S v : List UInt8} {xs : Option Addr} {cs : Nat} (hF : Fr n ds a F) (hS : St w M) (hx : evo F x = some (.slice (some ⟨b, o, none⟩) dl dc)) (hy : evo F y = some (tx xs cs v)) (hr : Rm M (blkA b T (S.map u8)) R) (hn : In M (txA xs cs v))
    (ht : sliceB P dT = some e) (hs : sizeB P e = some 1) (ho : o + dl ≤ S.length)
    (k : ∀ a' w', Fr n ds a' F → St w' (blkA b T ((lay S o (v.take dl)).map u8) :: R) → wpList P ops Q rest a' w') :
    wpList P ops Q (⟨none, .call { callee := .builtin .copy, args := #[x, y], argTypes := #[dT, sT] }, ty, pos, after, none⟩ :: rest) a w := by
  have hS' := hS.front hr
  have hb : w.heap[b]? = some (.cells (S.map u8).toArray T (0, 0)) := hS'.head.1
  have hrun := copy_run (P := P) (sT := sT) (ty' := ty) (dc := dc) (sliceB_spec ht) hs hb (hS.get hn) (by simp; omega : o + min v.length dl ≤ (S.map u8).length)
  have e : List.take o (List.map u8 S) ++ List.take (min v.length dl) (List.map u8 v) ++ List.drop (o + min v.length dl) (List.map u8 S) = (lay S o (v.take dl)).map u8 := by
    unfold lay
    simp only [List.map_append, List.map_take, List.map_drop, List.length_take]
    congr 2
    · rw [← List.map_take, ← List.map_take]
      congr 1
      rcases Nat.le_total v.length dl with h | h
      · rw [Nat.min_eq_left h, List.take_length, List.take_of_length_le h]
      · rw [Nat.min_eq_right h]
    · rw [Nat.min_comm]
  rw [e] at hrun
  refine r_runn (v := .int .i64 ((min v.length dl : Nat) : Int)) (w' := w.setRow b ((lay S o (v.take dl)).map u8).toArray) hF ?_ (fun a' hf => k a' _ hf ?_)
  · simp only [execOp, resolve, invoke, builtin, Sem.run_bind, Sem.run_pure, Result.andThen_ok, List.map_toArray, List.map_cons, List.map_nil, hF.eval hx, hF.eval hy]
    unfold tx
    rw [hrun]; rfl
  · refine hS'.step ⟨rfl, rfl, rfl, by simp [World.setRow]⟩ (fun k _ hk => setRow_other w b k _ hk) ⟨?_, ones8 _⟩ (fun _ hk => .inl hk) (fun _ hk => hk.elim)
    show (w.setRow b _).heap[b]? = _
    rw [setRow_heap w b _ _ T (0, 0) hb]

/-! ### a slice's first part as an array -/
theorem rv_toArr {t e m : TypeId} {x : Operand} {x0 : Option Addr} {c0 : Nat} {b : List UInt8} (hx : evo F x = some (tx x0 c0 b)) (ht : arrayB P t = some (m, e)) (hl : b.length = m) : RunV P F (.sliceToArrayPointer t x) ty w (.pointer x0) := fun ρ hρ _ _ _ _ => by
  subst hl
  simp [execOp, hρ _ _ hx, Instr.arrayAt, run_underlying (arrayB_spec ht), tx]
/-- The bytes of a text, read as an array. -/
theorem rv_ldArr {t : TypeId} {x : Operand} {x0 : Option Addr} {c0 m : Nat} {b : List UInt8} (hx : evo F x = some (.pointer x0)) (hg : aggB P t = some true) (hs : sizeB P t = some m) (hp : (txA x0 c0 b).p w) (hl : b.length = m) (h0 : 0 < m) :
    RunV P F (.load t x) ty w (.agg (b.map u8).toArray) := by
  subst hl
  obtain ⟨g, o, rfl⟩ := txP_some hp h0
  exact rv_loadN hx hg (by rw [hs, List.length_map]) (fun j u hj => slP.cell hp hj)

/-! ### functions as values -/
theorem rv_makeFunc {f : FuncId} {xs ys : List Operand} {vs us : List Value} (hx : evList F xs = some vs) (hy : evList F ys = some us) : RunV P F (.makeFunc (.func f) xs.toArray ys.toArray) ty w (.func (.func f) vs.toArray us.toArray) := fun ρ hρ _ _ _ _ => by
  have h1 : ∀ (l : List Operand) (v : List Value), evList F l = some v → l.map ρ = v := by
    intro l
    induction l with
    | nil => intro v h; simp [evList] at h; simp [h]
    | cons x l ih =>
      intro v h
      simp only [evList] at h
      cases hh : evo F x with
      | none => simp [hh] at h
      | some u =>
        rw [hh] at h
        cases hl : evList F l with
        | none => simp [hl] at h
        | some pl => rw [hl] at h; simp at h; subst h; simp [hρ _ _ hh, ih pl hl]
  simp [execOp, Instr.makeFunc, h1 _ _ hx, h1 _ _ hy]

/-- A call of a function that is a value. -/
theorem r_callv {f : FuncId} {t : Tmp} {xs : List Operand} {vs fs us : List Value} {ats : Array TypeId} {R : Value → World → Prop} (hF : Fr n ds a F) (hf0 : lk F t = some (.func (.func f) fs.toArray us.toArray)) (hx : evList F xs = some vs)
    (hf : ∀ w, (callFunc f (fs ++ (vs ++ us)).toArray).run P w = .ok (.enter f (fs ++ (vs ++ us)).toArray) w) (hd : dstOk n (some d) = true)
    (hc : Calls P f (fs ++ (vs ++ us)).toArray w (Ret R))
    (k : ∀ v w' a', R v w' → Fr n ds a' ((d, v) :: F) → wpList P ops Q rest a' w') :
    wpList P ops Q (⟨some d, .call { callee := .value (.tmp t), args := xs.toArray, argTypes := ats }, ty, pos, after, none⟩ :: rest) a w := by
  have hmap : (xs.toArray.map a.eval) = vs.toArray := by simp [evals xs vs hF (evList_map _ _ hx)]
  have ht : a.eval (.tmp t) = .func (.func f) fs.toArray us.toArray := hF.get _ _ hf0
  unfold wpList
  rw [if_pos (by simp [Region.wanted])]
  refine .inl ?_
  have hr : (execOp a.eval ⟨some d, .call { callee := .value (.tmp t), args := xs.toArray, argTypes := ats }, ty, pos, after, none⟩).run P w = .ok (.enter f (fs ++ (vs ++ us)).toArray) w := by
    simp only [execOp, resolve, hmap, ht, Deferred.ofValue, Sem.run_bind, Sem.run_pure, Result.andThen_ok, invoke]
    have e : fs.toArray ++ vs.toArray ++ us.toArray = (fs ++ (vs ++ us)).toArray := by simp
    rw [e, hf w]
  unfold Oper.wp
  rw [hr]
  refine hc.mono fun e w'' hR => ?_
  cases e with
  | returned v => exact k v w'' _ hR (hF.put (some d) v hd)
  | panicked c => exact hR.elim
  | outgrown => exact hR.elim

/-- Several cells of a slice, where it lies unknown. -/
theorem rv_ldGN {t : TypeId} {x : Operand} {x0 : Option Addr} {m c sz j k : Nat} {cs vs : List Value} (hx : evo F x = some (txAt x0 j)) (hg : aggB P t = some true) (hs : sizeB P t = some k) (hp : (slA sz (.slice x0 m c) cs).p w) (hv : (cs.drop j).take k = vs) (hl : vs.length = k) (h0 : 0 < k) : RunV P F (.load t x) ty w (.agg vs.toArray) := by
  subst hl
  have hlt : 0 < cs.length := by
    have : ((cs.drop j).take vs.length).length = vs.length := by rw [hv]
    rw [List.length_take, List.length_drop] at this; omega
  have : ∃ g o, x0 = some ⟨g, o, none⟩ := by
    rcases hp with ⟨_, hc⟩ | ⟨g, o, m', c', cells, T, fr, hh, _⟩
    · rw [hc] at hlt; simp at hlt
    · simp only [Value.slice.injEq] at hh; exact ⟨g, o, hh.1⟩
  obtain ⟨g, o, rfl⟩ := this
  refine rv_loadN (b := g) (o := o + j) (by simpa [txAt, add_none] using hx) hg hs (fun i u hi => ?_)
  rw [← hv, List.getElem?_take] at hi
  split at hi
  · rw [List.getElem?_drop] at hi
    rw [Nat.add_assoc]
    exact slP.cell hp hi
  · cases hi
theorem rv_ldGu {t : TypeId} {x : Operand} {x0 : Option Addr} {m c sz j k : Nat} {S : List UInt8} (hx : evo F x = some (txAt x0 j)) (hg : aggB P t = some true) (hs : sizeB P t = some (k + 1)) (hp : (slA sz (.slice x0 m c) (S.map u8)).p w) (hl : j + (k + 1) ≤ S.length) : RunV P F (.load t x) ty w (.agg (((S.drop j).take (k + 1)).map u8).toArray) :=
  rv_ldGN hx hg hs hp (by rw [List.map_take, List.map_drop]) (by simp; omega) (by omega)
theorem buildSlice1_run {t e : TypeId} {z : Value} {vs : List Value} (ht : sliceB P t = some e) (hs : sizeB P e = some vs.length) (hz : ∀ w, (zeroValue e).run P w = .ok z w) (hzl : z.cells.size = vs.length) (h0 : 0 < vs.length) (hl : vs.length ≤ 100000) (w : World) :
    (Instr.buildSlice t 1 #[(0, .agg vs.toArray)]).run P w = .ok (.slice (some ⟨w.heap.size, 0, none⟩) 1 1) (w.alloc (.cells vs.toArray e)) := by
  have hn : ¬ 1 * vs.length > 2 ^ 24 := by omega
  have h0' : ¬ 1 * vs.length = 0 := by omega
  have hc : ((Array.range (1 * vs.length)).map (z.cells[· % z.cells.size]!)) = ((Array.range (1 * vs.length)).map (z.cells[· % z.cells.size]!)).toList.toArray := Array.toArray_toList.symm
  have hf : Instr.fill (fun i => some (i * vs.length, vs.length)) ((Array.range (1 * vs.length)).map (z.cells[· % z.cells.size]!)) [(0, .agg vs.toArray)] = some vs.toArray := by
    rw [hc, fill_step1 (off := 0) (vs := vs) (by simp) rfl (by simp), fill_nil]
    unfold putAt
    rw [List.take_zero, List.nil_append, List.drop_eq_nil_of_le (by simp), List.append_nil]
  simp only [Instr.buildSlice, Sem.run_bind, Sem.run_pure, run_underlying (sliceB_spec ht), Result.andThen_ok, sizeB_run hs, hn, h0', if_false, hz, hf]
  simp [newRow]
/-- A literal of a slice of one element of several cells. -/
theorem r_litA {t e : TypeId} {x : Operand} {z : Value} {vs : List Value} (hF : Fr n ds a F) (hS : St w M) (hx : evo F x = some (.agg vs.toArray)) (ht : sliceB P t = some e) (hs : sizeB P e = some vs.length) (hz : ∀ w, (zeroValue e).run P w = .ok z w) (hzl : z.cells.size = vs.length) (h0 : 0 < vs.length) (hl : vs.length ≤ 100000)
    (h1 : ∀ u ∈ vs, u.oneCell' = true) (hd : dstOk n (some d) = true)
    (k : ∀ a' w' b, Fr n ds a' ((d, .slice (some ⟨b, 0, none⟩) 1 1) :: F) → St w' (rowA e vs.length (.slice (some ⟨b, 0, none⟩) 1 1) vs :: M) → wpList P ops Q rest a' w') :
    wpList P ops Q (⟨some d, .buildSlice t 1 #[(0, x)], ty, pos, after, none⟩ :: rest) a w :=
  r_bslice (l := [(0, x)]) (pv := [(0, .agg vs.toArray)]) (cs := vs) (sz := vs.length) hF hS (by simp only [evParts, hx]) (fun w => buildSlice1_run ht hs hz hzl h0 hl w) (by omega) h1 (by omega) hd k

/-- make of bytes, as a text. -/
theorem r_makeT {t e : TypeId} {x y : Operand} {j kk : IntKind} {l : Int} {l' : Nat} {bytes : Nat} (hF : Fr n ds a F) (hS : St w M) (hx : evo F x = some (.int j l)) (hy : evo F y = some (.int kk l)) (hl : l = Int.ofNat l') (ht : sliceB P t = some e)
    (hi : elemB P e = some (.int .u8 0, 1, bytes)) (hb : bytes * l' ≤ 281474976710656) (h63 : l' ≤ 140737488355328) (hd : dstOk n (some d) = true)
    (k : ∀ a' w' b, Fr n ds a' ((d, tx (some ⟨b, 0, none⟩) l' (List.replicate l' 0)) :: F) → St w' (txR e (some ⟨b, 0, none⟩) l' (List.replicate l' 0) :: M) → wpList P ops Q rest a' w') : wpList P ops Q (⟨some d, .makeSlice t x y, ty, pos, after, none⟩ :: rest) a w := by
  refine r_make1 hF hS hx hy hl ht hi rfl hb (by omega) hd (fun a' w' b h1 h2 => k a' w' b ?_ ?_)
  · unfold tx; rw [List.length_replicate]; exact h1
  · have h2 : St w' (blkA b e ((List.replicate l' 0).map u8) :: M) := h2.blk_eq (by rw [List.map_replicate]; rfl)
    have h3 := h2.blkT (by simp only [List.length_replicate, maxLen]; omega)
    rw [List.length_replicate] at h3
    exact h3

end Go.Bz
