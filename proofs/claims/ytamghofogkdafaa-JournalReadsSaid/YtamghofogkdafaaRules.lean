/- The rules of the operations that touch no memory, and of the code's forms: one lemma each. No condition: a library of lemmas. -/
import Derived.Test.YtamghofogkdafaaLogic
namespace Go.Bz

variable {n : Nat} {ds : List Deferred} {a : Act} {F : List (Nat × Value)} {P : Program} {ops : Array Oper} {Q : Exit → Act → World → Prop} {rest : List Oper} {w w' : World}
variable {d : Nat} {ty : TypeId} {pos : String} {after : Array Edge}

theorem wpList_run {o : Oper} {v : Value} (hg : o.guard = none) (hr : (execOp a.eval o).run P w = .ok (.value v) w')
    (k : wpList P ops Q rest (a.put o.dst v) w') : wpList P ops Q (o :: rest) a w := by
  unfold wpList
  rw [if_pos (by simp [Region.wanted, hg])]
  refine .inl ?_
  unfold Oper.wp
  rw [hr]
  exact k

theorem wpList_run_skip {o : Oper} (hg : o.guard = none) (hr : (execOp a.eval o).run P w = .ok .skip w')
    (k : wpList P ops Q rest (a.put o.dst undef) w') : wpList P ops Q (o :: rest) a w := by
  unfold wpList
  rw [if_pos (by simp [Region.wanted, hg])]
  refine .inl ?_
  unfold Oper.wp
  rw [hr]
  exact k

/-- A guarded operation that is wanted is as one without a guard. -/
theorem r_want {dst : Option Tmp} {op : Op} {j : Nat} {b : Bool} {oj : Oper} {t : Nat} (hF : Fr n ds a F) (hj : ops[j]? = some oj) (ht : oj.dst = some t) (hv : lk F t = some (.bool b))
    (k : wpList P ops Q (⟨dst, op, ty, pos, after, none⟩ :: rest) a w) : wpList P ops Q (⟨dst, op, ty, pos, after, some (j, b)⟩ :: rest) a w := by
  unfold wpList at k ⊢
  have hy : Region.wanted ⟨dst, op, ty, pos, after, some (j, b)⟩ (yielded ops a.tmps) = true := by
    have := hF.get _ _ hv
    rw [Array.getD_eq_getD_getElem?] at this
    simp [Region.wanted, yielded, hj, ht]
    cases h : a.tmps[t]? with
    | none => rw [h] at this; simp [undef] at this
    | some u => rw [h] at this; simp at this; subst this; rfl
  rw [if_pos hy]
  rw [if_pos (by simp [Region.wanted])] at k
  exact k

/-- A guarded operation that is not wanted is passed over. -/
theorem r_pass {op : Op} {j : Nat} {b c : Bool} {oj : Oper} {t : Nat} (hF : Fr n ds a F) (hj : ops[j]? = some oj) (ht : oj.dst = some t) (hv : lk F t = some (.bool c)) (hc : c = !b) (hd : dstOk n (some d) = true)
    (k : ∀ a', Fr n ds a' ((d, undef) :: F) → wpList P ops Q rest a' w) : wpList P ops Q (⟨some d, op, ty, pos, after, some (j, b)⟩ :: rest) a w := by
  unfold wpList
  have hy : Region.wanted ⟨some d, op, ty, pos, after, some (j, b)⟩ (yielded ops a.tmps) = false := by
    have := hF.get _ _ hv
    rw [Array.getD_eq_getD_getElem?] at this
    simp [Region.wanted, yielded, hj, ht]
    cases h : a.tmps[t]? with
    | none => rw [h] at this; simp [undef] at this
    | some u => rw [h] at this; simp at this; subst this; subst hc; cases b <;> simp
  rw [hy]
  exact k _ (hF.put (some d) undef hd)

theorem r_passu {op : Op} {j : Nat} {b : Bool} {oj : Oper} {t : Nat} (hF : Fr n ds a F) (hj : ops[j]? = some oj) (ht : oj.dst = some t) (hv : lk F t = some undef) (hd : dstOk n (some d) = true)
    (k : ∀ a', Fr n ds a' ((d, undef) :: F) → wpList P ops Q rest a' w) : wpList P ops Q (⟨some d, op, ty, pos, after, some (j, b)⟩ :: rest) a w := by
  unfold wpList
  have hy : Region.wanted ⟨some d, op, ty, pos, after, some (j, b)⟩ (yielded ops a.tmps) = false := by
    have := hF.get _ _ hv
    rw [Array.getD_eq_getD_getElem?] at this
    simp [Region.wanted, yielded, hj, ht]
    cases h : a.tmps[t]? with
    | none => simp
    | some u => rw [h] at this; simp at this; subst this; simp [undef]
  rw [hy]
  exact k _ (hF.put (some d) undef hd)

theorem r_run {op : Op} {v : Value} (hF : Fr n ds a F) (hd : dstOk n (some d) = true)
    (hr : (execOp a.eval ⟨some d, op, ty, pos, after, none⟩).run P w = .ok (.value v) w')
    (k : ∀ a', Fr n ds a' ((d, v) :: F) → wpList P ops Q rest a' w') : wpList P ops Q (⟨some d, op, ty, pos, after, none⟩ :: rest) a w :=
  wpList_run rfl hr (k _ (hF.put (some d) v hd))

theorem r_runn {op : Op} {v : Value} (hF : Fr n ds a F)
    (hr : (execOp a.eval ⟨none, op, ty, pos, after, none⟩).run P w = .ok (.value v) w')
    (k : ∀ a', Fr n ds a' F → wpList P ops Q rest a' w') : wpList P ops Q (⟨none, op, ty, pos, after, none⟩ :: rest) a w :=
  wpList_run rfl hr (k _ hF)

/-- What an operation yields that leaves the world alone, wherever the frame is known as far as F. -/
def RunV (P : Program) (F : List (Nat × Value)) (op : Op) (ty : TypeId) (w : World) (v : Value) : Prop :=
  ∀ (ρ : Operand → Value), (∀ x u, evo F x = some u → ρ x = u) → ∀ dst pos after g, (execOp ρ ⟨dst, op, ty, pos, after, g⟩).run P w = .ok (.value v) w

/-- What follows, wherever the frame is known so far. -/
def NextF (n : Nat) (ds : List Deferred) (G : List (Nat × Value)) (K : Act → Prop) : Prop := ∀ a', Fr n ds a' G → K a'
theorem nextf_ {G : List (Nat × Value)} {K : Act → Prop} (h : ∀ a', Fr n ds a' G → K a') : NextF n ds G K := h

theorem r_val {op : Op} {v : Value} (hF : Fr n ds a F) (hr : RunV P F op ty w v) (hd : dstOk n (some d) = true)
    (k : NextF n ds ((d, v) :: F) (fun a' => wpList P ops Q rest a' w)) : wpList P ops Q (⟨some d, op, ty, pos, after, none⟩ :: rest) a w :=
  r_run hF hd (hr a.eval (fun _ _ hx => hF.eval hx) _ _ _ _) k

theorem rv_move {x : Operand} {v : Value} (hx : evo F x = some v) : RunV P F (.move x) ty w v := fun ρ hρ _ _ _ _ => by simp [execOp, hρ _ _ hx]
theorem rv_assign {x : Operand} {v : Value} (hx : evo F x = some v) : RunV P F (.assign x) ty w v := fun ρ hρ _ _ _ _ => by simp [execOp, hρ _ _ hx]

theorem rv_pick {c x y : Operand} {b : Bool} {v u : Value} (hc : evo F c = some (.bool b)) (hx : evo F x = some v) (hy : evo F y = some u) : RunV P F (.pick c x y) ty w (if b = true then v else u) := fun ρ hρ _ _ _ _ => by simp only [execOp, hρ _ _ hc, hρ _ _ hx, hρ _ _ hy, asBool, Sem.run_bind, Sem.run_pure, Result.andThen_ok]

theorem rv_pick_t {c x y : Operand} {v : Value} (hc : evo F c = some (.bool true)) (hx : evo F x = some v) : RunV P F (.pick c x y) ty w (v) := fun ρ hρ _ _ _ _ => by simp only [execOp, hρ _ _ hc, hρ _ _ hx, asBool, Sem.run_bind, Sem.run_pure, Result.andThen_ok, if_true]
theorem rv_pick_f {c x y : Operand} {v : Value} (hc : evo F c = some (.bool false)) (hx : evo F y = some v) : RunV P F (.pick c x y) ty w (v) := fun ρ hρ _ _ _ _ => by simp only [execOp, hρ _ _ hc, hρ _ _ hx, asBool, Sem.run_bind, Sem.run_pure, Result.andThen_ok, Bool.false_eq_true, if_false]

/-- Ahead of a guarded operation: its guard is parted on. -/
theorem r_part {o : Oper} {g : Nat × Bool} {oj : Oper} {t : Nat} {p : Prop} [Decidable p] (hF : Fr n ds a F) (_hg : o.guard = some g) (_hj : ops[g.1]? = some oj) (_ht : oj.dst = some t) (hv : lk F t = some (.bool (decide p)))
    (k1 : p → Fr n ds a ((t, .bool true) :: F) → wpList P ops Q (o :: rest) a w) (k2 : ¬ p → Fr n ds a ((t, .bool false) :: F) → wpList P ops Q (o :: rest) a w) : wpList P ops Q (o :: rest) a w := by
  have hcons : ∀ b, lk F t = some (.bool b) → Fr n ds a ((t, .bool b) :: F) := fun b hb => Fr.weak1 hF hF hb
  by_cases hp : p
  · exact k1 hp (hcons true (by rw [hv]; simp [hp]))
  · exact k2 hp (hcons false (by rw [hv]; simp [hp]))

/-! ### binary operations -/
def BinV (P : Program) (op : BinOp) (t : TypeId) (X Y v : Value) : Prop :=
  ∀ (w : World) (x y : Operand), ((do eqGuard op t x y X Y; binOp op t X Y : Sem Value)).run P w = .ok v w

theorem rv_bin {op : BinOp} {t t' : TypeId} {x y : Operand} {X Y v : Value} (hx : evo F x = some X) (hy : evo F y = some Y) (hv : BinV P op t X Y v) : RunV P F (.binOp op t x y t') ty w (v) := fun ρ hρ _ _ _ _ => by
    have := hv w x y
    simp only [execOp, hρ _ _ hx, hρ _ _ hy]
    rw [Sem.run_bind, this]; rfl

theorem wrap_i64 {e : Int} (h1 : -9223372036854775808 ≤ e) (h2 : e ≤ 9223372036854775807) : IntKind.i64.wrap e = e := by
  simp [IntKind.wrap, IntKind.bits, IntKind.signed]; split <;> omega

section
variable {t : TypeId} {p q : Int}
theorem bin_add (h1 : -9223372036854775808 ≤ p + q) (h2 : p + q ≤ 9223372036854775807) : BinV P .add t (.int .i64 p) (.int .i64 q) (.int .i64 (p + q)) := fun w x y => by
  simp [eqGuard, binOp, Op.intArith, wrap_i64 h1 h2]
theorem bin_sub (h1 : -9223372036854775808 ≤ p - q) (h2 : p - q ≤ 9223372036854775807) : BinV P .sub t (.int .i64 p) (.int .i64 q) (.int .i64 (p - q)) := fun w x y => by
  simp [eqGuard, binOp, Op.intArith, wrap_i64 h1 h2]
theorem bin_mul (h1 : -9223372036854775808 ≤ p * q) (h2 : p * q ≤ 9223372036854775807) : BinV P .mul t (.int .i64 p) (.int .i64 q) (.int .i64 (p * q)) := fun w x y => by
  simp [eqGuard, binOp, Op.intArith, wrap_i64 h1 h2]
theorem bin_quo (h0 : 0 ≤ p) (hq : 0 < q) (h2 : p ≤ 9223372036854775807) : BinV P .quo t (.int .i64 p) (.int .i64 q) (.int .i64 (p / q)) := fun w x y => by
  have e : p.tdiv q = p / q := Int.tdiv_eq_ediv_of_nonneg h0
  have hb : 0 ≤ p / q := Int.ediv_nonneg h0 (by omega)
  have hc : p / q ≤ p := Int.ediv_le_self _ h0
  have hq' : q ≠ 0 := by omega
  simp [eqGuard, binOp, Op.intDiv, e, hq', wrap_i64 (e := p / q) (by omega) (by omega)]
theorem bin_rem (h0 : 0 ≤ p) (hq : 0 < q) : BinV P .rem t (.int .i64 p) (.int .i64 q) (.int .i64 (p % q)) := fun w x y => by
  have e : p.tmod q = p % q := Int.tmod_eq_emod_of_nonneg h0
  have hq' : q ≠ 0 := by omega
  simp [eqGuard, binOp, Op.intDiv, e, hq']
variable {k : IntKind}
theorem bin_lss : BinV P .lss t (.int k p) (.int k q) (.bool (decide (p < q))) := fun w x y => by simp [eqGuard, binOp, Op.intCmp]
theorem bin_leq : BinV P .leq t (.int k p) (.int k q) (.bool (decide (p ≤ q))) := fun w x y => by simp [eqGuard, binOp, Op.intCmp]
theorem bin_gtr : BinV P .gtr t (.int k p) (.int k q) (.bool (decide (q < p))) := fun w x y => by simp [eqGuard, binOp, Op.intCmp]
theorem bin_geq : BinV P .geq t (.int k p) (.int k q) (.bool (decide (q ≤ p))) := fun w x y => by simp [eqGuard, binOp, Op.intCmp]
theorem bin_eql : BinV P .eql t (.int k p) (.int k q) (.bool (decide (p = q))) := fun w x y => by
  simp [eqGuard, binOp, Op.intCmp]; by_cases h : p = q <;> simp [h]
theorem bin_neq : BinV P .neq t (.int k p) (.int k q) (.bool (decide (p ≠ q))) := fun w x y => by
  simp [eqGuard, binOp, Op.intCmp]; by_cases h : p = q <;> simp [h]
theorem toList_beq (s u : ByteArray) : (s.toList == u.toList) = decide (s = u) := by
  rw [ByteArray.toList_eq, ByteArray.toList_eq]
  by_cases h : s = u
  · subst h; simp
  · have : ¬ s.data = u.data := fun hh => h (by cases s; cases u; simpa using hh)
    simp [h, this]
theorem bin_seql {s u : ByteArray} : BinV P .eql t (.string s) (.string u) (.bool (decide (s = u))) := fun w x y => by
  simp [eqGuard, binOp, Op.stringOp, toList_beq]
theorem bin_sneq {s u : ByteArray} : BinV P .neq t (.string s) (.string u) (.bool (decide (s ≠ u))) := fun w x y => by
  simp [eqGuard, binOp, Op.stringOp, toList_beq]
end

/-! ### whole numbers without a sign -/
abbrev u8 (x : UInt8) : Value := .int .u8 (x.toNat : Int)
abbrev u32 (x : UInt32) : Value := .int .u32 (x.toNat : Int)
abbrev u64 (x : UInt64) : Value := .int .u64 (x.toNat : Int)

theorem wrap_u8 {e : Nat} : IntKind.u8.wrap (e : Int) = ((e % 256 : Nat) : Int) := by
  simp [IntKind.wrap, IntKind.bits, IntKind.signed]
theorem wrap_u32 {e : Nat} : IntKind.u32.wrap (e : Int) = ((e % 4294967296 : Nat) : Int) := by
  simp [IntKind.wrap, IntKind.bits, IntKind.signed]
theorem wrap_u64 {e : Nat} : IntKind.u64.wrap (e : Int) = ((e % 18446744073709551616 : Nat) : Int) := by
  simp [IntKind.wrap, IntKind.bits, IntKind.signed]

section
variable {t : TypeId}
theorem bin_add_u32 {x y : UInt32} : BinV P .add t (u32 x) (u32 y) (u32 (x + y)) := fun w a b => by
  simp only [eqGuard, binOp, Op.intArith]
  rw [← Int.natCast_add, wrap_u32]; simp [UInt32.toNat_add]
theorem bin_mul_u32 {x y : UInt32} : BinV P .mul t (u32 x) (u32 y) (u32 (x * y)) := fun w a b => by
  simp only [eqGuard, binOp, Op.intArith]
  rw [← Int.natCast_mul, wrap_u32]; simp [UInt32.toNat_mul]
theorem bin_add_u64 {x y : UInt64} : BinV P .add t (u64 x) (u64 y) (u64 (x + y)) := fun w a b => by
  simp only [eqGuard, binOp, Op.intArith]
  rw [← Int.natCast_add, wrap_u64]; simp [UInt64.toNat_add]
theorem bin_mul_u64 {x y : UInt64} : BinV P .mul t (u64 x) (u64 y) (u64 (x * y)) := fun w a b => by
  simp only [eqGuard, binOp, Op.intArith]
  rw [← Int.natCast_mul, wrap_u64]; simp [UInt64.toNat_mul]
theorem bin_add_u8 {x y : UInt8} : BinV P .add t (u8 x) (u8 y) (u8 (x + y)) := fun w a b => by
  simp only [eqGuard, binOp, Op.intArith]
  rw [← Int.natCast_add, wrap_u8]; simp [UInt8.toNat_add]
theorem wrap_sub_u32 {x y : UInt32} : IntKind.u32.wrap ((x.toNat : Int) - (y.toNat : Int)) = ((x - y).toNat : Int) := by
  have hx := x.toNat_lt; have hy := y.toNat_lt
  simp only [IntKind.wrap, IntKind.bits, IntKind.signed, UInt32.toNat_sub]; simp; omega
theorem wrap_sub_u64 {x y : UInt64} : IntKind.u64.wrap ((x.toNat : Int) - (y.toNat : Int)) = ((x - y).toNat : Int) := by
  have hx := x.toNat_lt; have hy := y.toNat_lt
  simp only [IntKind.wrap, IntKind.bits, IntKind.signed, UInt64.toNat_sub]; simp; omega
theorem wrap_sub_u8 {x y : UInt8} : IntKind.u8.wrap ((x.toNat : Int) - (y.toNat : Int)) = ((x - y).toNat : Int) := by
  have hx := x.toNat_lt; have hy := y.toNat_lt
  simp only [IntKind.wrap, IntKind.bits, IntKind.signed, UInt8.toNat_sub]; simp; omega
theorem bin_sub_u32 {x y : UInt32} : BinV P .sub t (u32 x) (u32 y) (u32 (x - y)) := fun w a b => by
  simp [eqGuard, binOp, Op.intArith, wrap_sub_u32]
theorem bin_sub_u64 {x y : UInt64} : BinV P .sub t (u64 x) (u64 y) (u64 (x - y)) := fun w a b => by
  simp [eqGuard, binOp, Op.intArith, wrap_sub_u64]
theorem bin_sub_u8 {x y : UInt8} : BinV P .sub t (u8 x) (u8 y) (u8 (x - y)) := fun w a b => by
  simp [eqGuard, binOp, Op.intArith, wrap_sub_u8]

theorem ofInt_u32 (x : UInt32) : BitVec.ofInt 32 (x.toNat : Int) = x.toBitVec := by
  rw [BitVec.ofInt_natCast]; apply BitVec.eq_of_toNat_eq; simp
theorem ofInt_u64 (x : UInt64) : BitVec.ofInt 64 (x.toNat : Int) = x.toBitVec := by
  rw [BitVec.ofInt_natCast]; apply BitVec.eq_of_toNat_eq; simp
theorem ofInt_u8 (x : UInt8) : BitVec.ofInt 8 (x.toNat : Int) = x.toBitVec := by
  rw [BitVec.ofInt_natCast]; apply BitVec.eq_of_toNat_eq; simp
theorem back_u32 (r : BitVec 32) : IntKind.u32.wrap (r.toNat : Int) = (r.toNat : Int) := by
  rw [wrap_u32, Nat.mod_eq_of_lt r.isLt]
theorem back_u64 (r : BitVec 64) : IntKind.u64.wrap (r.toNat : Int) = (r.toNat : Int) := by
  rw [wrap_u64, Nat.mod_eq_of_lt r.isLt]
theorem back_u8 (r : BitVec 8) : IntKind.u8.wrap (r.toNat : Int) = (r.toNat : Int) := by
  rw [wrap_u8, Nat.mod_eq_of_lt r.isLt]

theorem bin_and_u32 {x y : UInt32} : BinV P .and t (u32 x) (u32 y) (u32 (x &&& y)) := fun w a b => by
  simp only [eqGuard, binOp, Op.intBits, IntKind.bits, ofInt_u32, back_u32]; rfl
theorem bin_or_u32 {x y : UInt32} : BinV P .or t (u32 x) (u32 y) (u32 (x ||| y)) := fun w a b => by
  simp only [eqGuard, binOp, Op.intBits, IntKind.bits, ofInt_u32, back_u32]; rfl
theorem bin_xor_u32 {x y : UInt32} : BinV P .xor t (u32 x) (u32 y) (u32 (x ^^^ y)) := fun w a b => by
  simp only [eqGuard, binOp, Op.intBits, IntKind.bits, ofInt_u32, back_u32]; rfl
theorem bin_and_u64 {x y : UInt64} : BinV P .and t (u64 x) (u64 y) (u64 (x &&& y)) := fun w a b => by
  simp only [eqGuard, binOp, Op.intBits, IntKind.bits, ofInt_u64, back_u64]; rfl
theorem bin_or_u64 {x y : UInt64} : BinV P .or t (u64 x) (u64 y) (u64 (x ||| y)) := fun w a b => by
  simp only [eqGuard, binOp, Op.intBits, IntKind.bits, ofInt_u64, back_u64]; rfl
theorem bin_xor_u64 {x y : UInt64} : BinV P .xor t (u64 x) (u64 y) (u64 (x ^^^ y)) := fun w a b => by
  simp only [eqGuard, binOp, Op.intBits, IntKind.bits, ofInt_u64, back_u64]; rfl
theorem bin_and_u8 {x y : UInt8} : BinV P .and t (u8 x) (u8 y) (u8 (x &&& y)) := fun w a b => by
  simp only [eqGuard, binOp, Op.intBits, IntKind.bits, ofInt_u8, back_u8]; rfl
theorem bin_or_u8 {x y : UInt8} : BinV P .or t (u8 x) (u8 y) (u8 (x ||| y)) := fun w a b => by
  simp only [eqGuard, binOp, Op.intBits, IntKind.bits, ofInt_u8, back_u8]; rfl
theorem bin_xor_u8 {x y : UInt8} : BinV P .xor t (u8 x) (u8 y) (u8 (x ^^^ y)) := fun w a b => by
  simp only [eqGuard, binOp, Op.intBits, IntKind.bits, ofInt_u8, back_u8]; rfl

theorem shl_mod {x m s : Nat} (hs : s ≤ m) : x * 2 ^ (min m s) % 2 ^ s = x * 2 ^ m % 2 ^ s := by
  rw [Nat.min_eq_right hs, Nat.mul_mod_left]
  obtain ⟨c, rfl⟩ := Nat.exists_eq_add_of_le hs
  rw [Nat.pow_add, ← Nat.mul_assoc, Nat.mul_right_comm, Nat.mul_mod_left]
theorem bin_shl_u32 {x : UInt32} {yk : IntKind} {c : Int} (hc : 0 ≤ c) : BinV P .shl t (u32 x) (.int yk c) (u32 (UInt32.ofNat (x.toNat * 2 ^ c.toNat))) := fun w a b => by
  have hn : ¬ c < 0 := by omega
  have e : ((x.toNat : Int) * 2 ^ (min c.toNat 32)) = ((x.toNat * 2 ^ (min c.toNat 32) : Nat) : Int) := by simp
  have g : x.toNat * 2 ^ (min c.toNat 32) % 4294967296 = x.toNat * 2 ^ c.toNat % 4294967296 := by
    rcases Nat.le_total 32 c.toNat with h | h
    · exact shl_mod (s := 32) h
    · rw [Nat.min_eq_left h]
  simp only [eqGuard, binOp, Op.shift, hn, if_false, IntKind.bits, e, wrap_u32, g]
  simp
theorem bin_shl_u64 {x : UInt64} {yk : IntKind} {c : Int} (hc : 0 ≤ c) : BinV P .shl t (u64 x) (.int yk c) (u64 (UInt64.ofNat (x.toNat * 2 ^ c.toNat))) := fun w a b => by
  have hn : ¬ c < 0 := by omega
  have e : ((x.toNat : Int) * 2 ^ (min c.toNat 64)) = ((x.toNat * 2 ^ (min c.toNat 64) : Nat) : Int) := by simp
  have g : x.toNat * 2 ^ (min c.toNat 64) % 18446744073709551616 = x.toNat * 2 ^ c.toNat % 18446744073709551616 := by
    rcases Nat.le_total 64 c.toNat with h | h
    · exact shl_mod (s := 64) h
    · rw [Nat.min_eq_left h]
  simp only [eqGuard, binOp, Op.shift, hn, if_false, IntKind.bits, e, wrap_u64, g]
  simp
theorem shr_min {x m s : Nat} (hx : x < 2 ^ s) : x / 2 ^ (min m s) = x / 2 ^ m := by
  rcases Nat.le_total s m with h | h
  · rw [Nat.min_eq_right h, Nat.div_eq_of_lt hx, Nat.div_eq_of_lt (Nat.lt_of_lt_of_le hx (Nat.pow_le_pow_right (by omega) h))]
  · rw [Nat.min_eq_left h]
theorem fdiv_pow (x m : Nat) : (x : Int).fdiv (2 ^ m) = ((x / 2 ^ m : Nat) : Int) := by
  rw [Int.fdiv_eq_ediv_of_nonneg _ (Int.pow_nonneg (by omega))]; simp
theorem bin_shr_u32 {x : UInt32} {yk : IntKind} {c : Int} (hc : 0 ≤ c) : BinV P .shr t (u32 x) (.int yk c) (u32 (UInt32.ofNat (x.toNat / 2 ^ c.toNat))) := fun w a b => by
  have hn : ¬ c < 0 := by omega
  have g : x.toNat / 2 ^ c.toNat = (UInt32.ofNat (x.toNat / 2 ^ c.toNat)).toNat := by
    simp only [UInt32.toNat_ofNat']
    exact (Nat.mod_eq_of_lt (Nat.lt_of_le_of_lt (Nat.div_le_self _ _) x.toNat_lt)).symm
  simp only [eqGuard, binOp, Op.shift, hn, if_false, IntKind.bits, fdiv_pow, shr_min x.toNat_lt]
  refine congrArg (fun z : Nat => Result.ok (Value.int _ (z : Int)) w) g
theorem bin_shr_u64 {x : UInt64} {yk : IntKind} {c : Int} (hc : 0 ≤ c) : BinV P .shr t (u64 x) (.int yk c) (u64 (UInt64.ofNat (x.toNat / 2 ^ c.toNat))) := fun w a b => by
  have hn : ¬ c < 0 := by omega
  have g : x.toNat / 2 ^ c.toNat = (UInt64.ofNat (x.toNat / 2 ^ c.toNat)).toNat := by
    simp only [UInt64.toNat_ofNat']
    exact (Nat.mod_eq_of_lt (Nat.lt_of_le_of_lt (Nat.div_le_self _ _) x.toNat_lt)).symm
  simp only [eqGuard, binOp, Op.shift, hn, if_false, IntKind.bits, fdiv_pow, shr_min x.toNat_lt]
  refine congrArg (fun z : Nat => Result.ok (Value.int _ (z : Int)) w) g
theorem bin_quo_u64 {x y : UInt64} (hy : y ≠ 0) : BinV P .quo t (u64 x) (u64 y) (u64 (x / y)) := fun w a b => by
  have hy' : y.toNat ≠ 0 := fun h => hy (by apply UInt64.toNat.inj; simpa using h)
  have e : ((x.toNat : Int)).tdiv (y.toNat : Int) = ((x.toNat / y.toNat : Nat) : Int) := by rfl
  have hlt : x.toNat / y.toNat < 18446744073709551616 := Nat.lt_of_le_of_lt (Nat.div_le_self _ _) x.toNat_lt
  simp only [eqGuard, binOp, Op.intDiv, e, wrap_u64, Nat.mod_eq_of_lt hlt]
  simp [hy']
theorem bin_rem_u64 {x y : UInt64} (hy : y ≠ 0) : BinV P .rem t (u64 x) (u64 y) (u64 (x % y)) := fun w a b => by
  have hy' : y.toNat ≠ 0 := fun h => hy (by apply UInt64.toNat.inj; simpa using h)
  have e : ((x.toNat : Int)).tmod (y.toNat : Int) = ((x.toNat % y.toNat : Nat) : Int) := by rfl
  simp only [eqGuard, binOp, Op.intDiv, e]
  simp [hy']
end

/-- A binary operation whose second operand is a constant of the text: its value by another name. -/
theorem bin_c {op : BinOp} {t : TypeId} {X Y Z v : Value} (h : Y = Z) (hb : BinV P op t X Z v) : BinV P op t X Y v := h ▸ hb
theorem bin_c1 {op : BinOp} {t : TypeId} {X Y Z v : Value} (h : X = Z) (hb : BinV P op t Z Y v) : BinV P op t X Y v := h ▸ hb

/-! ### conversions between whole numbers -/
def ConvV (P : Program) (s t : TypeId) (X v : Value) : Prop := ∀ w : World, (convert s t X).run P w = .ok v w
theorem rv_conv {s t : TypeId} {x : Operand} {X v : Value} (hx : evo F x = some X) (hv : ConvV P s t X v) : RunV P F (.convert s t x) ty w (v) := fun ρ hρ _ _ _ _ => by simp only [execOp, hρ _ _ hx, Sem.run_bind, hv w, Result.andThen_ok, Sem.run_pure]

def kindOf (P : Program) (t : TypeId) : Option IntKind := match P.underlying t with | some (.int k) => some k | _ => none
theorem kindOf_spec {t : TypeId} {k : IntKind} (h : kindOf P t = some k) : P.underlying t = some (.int k) := by
  unfold kindOf at h; split at h <;> simp_all
theorem conv_int {s t : TypeId} {j k l : IntKind} {p q : Int} (hs : kindOf P s = some l) (ht : kindOf P t = some k) (hw : k.wrap p = q) : ConvV P s t (.int j p) (.int k q) := fun w => by
  simp [convert, run_underlying (kindOf_spec hs), run_underlying (kindOf_spec ht), Conv.intToInt, hw]
theorem wrap_u8u32 (x : UInt8) : IntKind.u32.wrap (x.toNat : Int) = (x.toUInt32.toNat : Int) := by
  rw [wrap_u32]; have := x.toNat_lt; simp
theorem wrap_u8u64 (x : UInt8) : IntKind.u64.wrap (x.toNat : Int) = (x.toUInt64.toNat : Int) := by
  rw [wrap_u64]; have := x.toNat_lt; simp
theorem wrap_u8i64 (x : UInt8) : IntKind.i64.wrap (x.toNat : Int) = (x.toNat : Int) := by
  have := x.toNat_lt; exact wrap_i64 (by omega) (by omega)
theorem wrap_u32u8 (x : UInt32) : IntKind.u8.wrap (x.toNat : Int) = (x.toUInt8.toNat : Int) := by rw [wrap_u8]; rfl
theorem wrap_u64u8 (x : UInt64) : IntKind.u8.wrap (x.toNat : Int) = (x.toUInt8.toNat : Int) := by rw [wrap_u8]; rfl
theorem wrap_u64i64 (x : UInt64) (h : x.toNat ≤ 9223372036854775807) : IntKind.i64.wrap (x.toNat : Int) = (x.toNat : Int) := wrap_i64 (by omega) (by omega)
theorem wrap_i64u64 {p : Int} (h : 0 ≤ p) (h2 : p ≤ 9223372036854775807) : IntKind.u64.wrap p = ((UInt64.ofNat p.toNat).toNat : Int) := by
  obtain ⟨m, rfl⟩ := Int.eq_ofNat_of_zero_le h
  rw [wrap_u64]; simp
theorem wrap_i64u8 {p : Int} (h : 0 ≤ p) : IntKind.u8.wrap p = ((UInt8.ofNat p.toNat).toNat : Int) := by
  obtain ⟨m, rfl⟩ := Int.eq_ofNat_of_zero_le h
  rw [wrap_u8]; simp

/-! ### the code's forms -/
theorem q_then {K : Act → World → Prop} (h : K a w) : Exit.then K Q .normal a w := h
theorem q_block {i : Nat} (h : Q .normal a w) : Exit.inBlock i Q .normal a w := h
theorem q_block_exit {i : Nat} (h : Q .normal a w) : Exit.inBlock i Q (.exit i) a w := by simp only [Exit.inBlock, if_true]; exact h
theorem q_block_out {i j : Nat} (hn : Nat.beq j i = false) (h : Q (.exit j) a w) : Exit.inBlock i Q (.exit j) a w := by
  have : j ≠ i := fun e => by subst e; simp at hn
  simp only [Exit.inBlock, this, if_false]; exact h
theorem q_then_exit {K : Act → World → Prop} {j : Nat} (h : Q (.exit j) a w) : Exit.then K Q (.exit j) a w := h
theorem q_then_ret {K : Act → World → Prop} (h : Q .ret a w) : Exit.then K Q .ret a w := h
theorem q_block_ret {i : Nat} (h : Q .ret a w) : Exit.inBlock i Q .ret a w := h

theorem r_nil (h : Q .normal a w) : wpList P ops Q [] a w := h
theorem r_region {id : Nat} {l : List Oper} (h : wpList P l.toArray Q l a w) : (Code.region id l.toArray false).wp P Q a w := wp_region_lit h
theorem r_cond {c : Operand} {x y : Code} {p : Prop} [Decidable p] (hF : Fr n ds a F) (hc : evo F c = some (.bool (decide p))) (ht : p → x.wp P Q a w) (hf : ¬ p → y.wp P Q a w) : (Code.cond c x y).wp P Q a w := by
  by_cases hp : p
  · exact wp_cond_true (by rw [hF.eval hc]; simp [hp]) (ht hp)
  · exact wp_cond_false (by rw [hF.eval hc]; simp [hp]) (hf hp)
theorem r_condb {c : Operand} {x y : Code} {b : Bool} (hF : Fr n ds a F) (hc : evo F c = some (.bool b)) (ht : b = true → x.wp P Q a w) (hf : b = false → y.wp P Q a w) : (Code.cond c x y).wp P Q a w := by
  cases b
  · exact wp_cond_false (hF.eval hc) (hf rfl)
  · exact wp_cond_true (hF.eval hc) (ht rfl)

theorem r_loop {σ : Type} {c : Code} (I : σ → Act → World → Prop) (m : σ → Nat) (s₀ : σ) (h₀ : I s₀ a w)
    (round : ∀ s a w, I s a w → c.wp P (Exit.then (fun a' w' => ∃ s', m s' < m s ∧ I s' a' w') Q) a w) : (Code.loop c).wp P Q a w := by
  intro b todo cs
  have key : ∀ k (s : σ) a w, m s = k → I s a w →
      ∃ e a' w', Q e a' w' ∧ Arrives P (lone (b.at a (.code c :: .inLoop c :: todo)) cs w) b todo cs e a' w' := by
    intro k
    induction k using Nat.strongRecOn with
    | _ k ih =>
      intro s a w hk hI
      obtain ⟨e, a₁, w₁, hq, harr⟩ := round s a w hI b (.inLoop c :: todo) cs
      cases e with
      | normal =>
        obtain ⟨s', hlt, hI'⟩ := hq
        obtain ⟨e₂, a₂, w₂, hq₂, harr₂⟩ := ih (m s') (hk ▸ hlt) s' a₁ w₁ rfl hI'
        exact ⟨e₂, a₂, w₂, hq₂, .of_steps (Steps.trans harr (.one step_inLoop)) harr₂⟩
      | exit id => exact ⟨_, a₁, w₁, hq, .pass (x := .inLoop c) rfl (fun _ _ => .inl (by simp)) harr⟩
      | goto l => exact ⟨_, a₁, w₁, hq, .pass (x := .inLoop c) rfl (fun _ _ => .inl (by simp)) harr⟩
      | ret => exact ⟨_, a₁, w₁, hq, .pass (x := .inLoop c) rfl (fun _ _ => .inl (by simp)) harr⟩
      | panic ch => exact ⟨_, a₁, w₁, hq, .pass (x := .inLoop c) rfl (fun _ _ => .inl (by simp)) harr⟩
      | outgrown => exact ⟨_, a₁, w₁, hq, .pass (x := .inLoop c) rfl (fun _ _ => .inl (by simp)) harr⟩
  obtain ⟨e, a', w', hq, harr⟩ := key _ s₀ a w rfl h₀
  exact ⟨e, a', w', hq, .of_steps (.one step_loop) harr⟩

/-! ### a call's begin and end -/
def argsF : Nat → List Value → List (Nat × Value)
  | _, [] => []
  | i, v :: vs => (i, v) :: argsF (i + 1) vs

theorem lk_args (vs : List Value) : ∀ (i t : Nat) (v : Value), lk (argsF i vs) t = some v → i ≤ t ∧ vs[t - i]? = some v := by
  induction vs with
  | nil => intro i t v h; simp [argsF, lk] at h
  | cons u vs ih =>
    intro i t v h
    simp only [argsF, lk] at h
    split at h
    · rename_i hb
      have e : i = t := Nat.eq_of_beq_eq_true hb
      subst e
      simpa using h
    · rename_i hb
      have e : i ≠ t := fun e => by subst e; simp at hb
      obtain ⟨h1, h2⟩ := ih _ _ _ h
      refine ⟨by omega, ?_⟩
      rw [show t - i = (t - (i + 1)) + 1 from by omega]
      simpa using h2

theorem r_enter {f : FuncId} {fn : Func} {c : Code} {vs : List Value} {R : Ending → World → Prop} (hf : P.funcs[f]? = some fn) (hb : fn.body = some c) (hn : fn.ntmps = n) (hle : Nat.ble vs.length n = true)
    (h : ∀ a, Fr n [] a (argsF 0 vs) → c.wp P (bodyPost P fn R) a w) : Calls P f vs.toArray w R := by
  refine calls_of_wp hf hb (h _ ?_)
  have hle' : vs.length ≤ n := Nat.ble_eq.mp hle
  refine ⟨by simp [hn]; omega, rfl, fun t v hv => ?_⟩
  obtain ⟨-, h2⟩ := lk_args vs 0 t v hv
  have hlt : t < vs.length := by
    have := (List.getElem?_eq_some_iff.mp h2).1; simpa using this
  rw [Array.getD_eq_getD_getElem?, Array.getElem?_append_left (by simpa using hlt)]
  simp at h2 ⊢
  rw [h2]; rfl

theorem ret0 {fn : Func} {R : Ending → World → Prop} {ds : List Deferred} (hr : fn.results = #[]) (hF : Fr n ds a F) (hd : ds = []) (h : R (.returned (.tuple #[])) w) : bodyPost P fn R .normal a w :=
  ⟨hF.defers.trans hd, _, results_none hr _ _ _, h⟩
theorem ret0r {fn : Func} {R : Ending → World → Prop} {ds : List Deferred} (hr : fn.results = #[]) (hF : Fr n ds a F) (hd : ds = []) (h : R (.returned (.tuple #[])) w) : bodyPost P fn R .ret a w :=
  ⟨hF.defers.trans hd, _, results_none hr _ _ _, h⟩
theorem ret1 {fn : Func} {R : Ending → World → Prop} {ds : List Deferred} {t : Nat} {v : Value} (hr : fn.results = #[.tmp t]) (hF : Fr n ds a F) (hd : ds = []) (ht : lk F t = some v) (h : R (.returned v) w) : bodyPost P fn R .ret a w :=
  ⟨hF.defers.trans hd, _, results_tmp hr _ _ _, by rw [hF.get _ _ ht]; exact h⟩
theorem ret2 {fn : Func} {R : Ending → World → Prop} {ds : List Deferred} {t u : Nat} {v x : Value} (hr : fn.results = #[.tmp t, .tmp u]) (hF : Fr n ds a F) (hd : ds = []) (ht : lk F t = some v) (hu : lk F u = some x) (h : R (.returned (.tuple #[v, x])) w) : bodyPost P fn R .ret a w :=
  ⟨hF.defers.trans hd, _, results_tmp2 hr _ _ _, by rw [hF.get _ _ ht, hF.get _ _ hu]; exact h⟩
theorem ret3 {fn : Func} {R : Ending → World → Prop} {ds : List Deferred} {t u s : Nat} {v x y : Value} (hr : fn.results = #[.tmp t, .tmp u, .tmp s]) (hF : Fr n ds a F) (hd : ds = []) (ht : lk F t = some v) (hu : lk F u = some x) (hs : lk F s = some y) (h : R (.returned (.tuple #[v, x, y])) w) : bodyPost P fn R .ret a w :=
  ⟨hF.defers.trans hd, _, results_tmp3 hr _ _ _, by rw [hF.get _ _ ht, hF.get _ _ hu, hF.get _ _ hs]; exact h⟩

def evList (F : List (Nat × Value)) : List Operand → Option (List Value)
  | [] => some []
  | x :: r => match evo F x with
    | some v => match evList F r with
      | some l => some (v :: l)
      | none => none
    | none => none
theorem evList_map : ∀ (l : List Operand) (vs : List Value), evList F l = some vs → l.map (evo F) = vs.map some := by
  intro l
  induction l with
  | nil => intro vs h; simp [evList] at h; simp [← h]
  | cons x l ih =>
    intro vs h
    simp only [evList] at h
    cases hx : evo F x with
    | none => simp [hx] at h
    | some v =>
      rw [hx] at h
      cases hl : evList F l with
      | none => simp [hl] at h
      | some pl =>
        rw [hl] at h
        simp at h
        subst h
        simp [hx, ih pl hl]

/-- A call of a Go function of the program, by its contract. -/
theorem r_call {f : FuncId} {xs : List Operand} {vs : List Value} {ats : Array TypeId} {R : Ending → World → Prop} (hF : Fr n ds a F) (hx : xs.map (evo F) = vs.map some)
    (hf : ∀ w, (callFunc f vs.toArray).run P w = .ok (.enter f vs.toArray) w) (hd : dstOk n (some d) = true)
    (hc : Calls P f vs.toArray w R)
    (hp : ∀ c w', ¬ R (.panicked c) w') (ho : ∀ w', ¬ R .outgrown w')
    (k : ∀ v w' a', R (.returned v) w' → Fr n ds a' ((d, v) :: F) → wpList P ops Q rest a' w') :
    wpList P ops Q (⟨some d, .call { callee := .value (.func f), args := xs.toArray, argTypes := ats }, ty, pos, after, none⟩ :: rest) a w := by
  have hmap : (xs.toArray.map a.eval) = vs.toArray := by simp [evals xs vs hF hx]
  unfold wpList
  rw [if_pos (by simp [Region.wanted])]
  refine .inl ?_
  have hr : (execOp a.eval ⟨some d, .call { callee := .value (.func f), args := xs.toArray, argTypes := ats }, ty, pos, after, none⟩).run P w = .ok (.enter f vs.toArray) w := by
    simp only [execOp, resolve, hmap, Act.eval, Deferred.ofValue, Sem.run_bind, Sem.run_pure, Result.andThen_ok, invoke, Array.empty_append, Array.append_empty, hf w]
  unfold Oper.wp
  rw [hr]
  refine hc.mono fun e w'' hR => ?_
  cases e with
  | returned v => exact k v w'' _ hR (hF.put (some d) v hd)
  | panicked c => exact (hp c w'' hR).elim
  | outgrown => exact (ho w'' hR).elim

/-- As above, of a call that leaves nothing in the frame. -/
theorem r_calln {f : FuncId} {xs : List Operand} {vs : List Value} {ats : Array TypeId} {R : Ending → World → Prop} (hF : Fr n ds a F) (hx : xs.map (evo F) = vs.map some)
    (hf : ∀ w, (callFunc f vs.toArray).run P w = .ok (.enter f vs.toArray) w)
    (hc : Calls P f vs.toArray w R)
    (hp : ∀ c w', ¬ R (.panicked c) w') (ho : ∀ w', ¬ R .outgrown w')
    (k : ∀ v w' a', R (.returned v) w' → Fr n ds a' F → wpList P ops Q rest a' w') :
    wpList P ops Q (⟨none, .call { callee := .value (.func f), args := xs.toArray, argTypes := ats }, ty, pos, after, none⟩ :: rest) a w := by
  have hmap : (xs.toArray.map a.eval) = vs.toArray := by simp [evals xs vs hF hx]
  unfold wpList
  rw [if_pos (by simp [Region.wanted])]
  refine .inl ?_
  have hr : (execOp a.eval ⟨none, .call { callee := .value (.func f), args := xs.toArray, argTypes := ats }, ty, pos, after, none⟩).run P w = .ok (.enter f vs.toArray) w := by
    simp only [execOp, resolve, hmap, Act.eval, Deferred.ofValue, Sem.run_bind, Sem.run_pure, Result.andThen_ok, invoke, Array.empty_append, Array.append_empty, hf w]
  unfold Oper.wp
  rw [hr]
  refine hc.mono fun e w'' hR => ?_
  cases e with
  | returned v => exact k v w'' _ hR hF
  | panicked c => exact (hp c w'' hR).elim
  | outgrown => exact (ho w'' hR).elim

/-- What a call that returns leaves: the value and the world. -/
def Ret (R : Value → World → Prop) : Ending → World → Prop
  | .returned v, w => R v w
  | _, _ => False

theorem r_callr {f : FuncId} {xs : List Operand} {vs : List Value} {ats : Array TypeId} {R : Value → World → Prop} (hF : Fr n ds a F) (hx : evList F xs = some vs)
    (hf : ∀ w, (callFunc f vs.toArray).run P w = .ok (.enter f vs.toArray) w) (hd : dstOk n (some d) = true)
    (hc : Calls P f vs.toArray w (Ret R))
    (k : ∀ v w' a', R v w' → Fr n ds a' ((d, v) :: F) → wpList P ops Q rest a' w') :
    wpList P ops Q (⟨some d, .call { callee := .value (.func f), args := xs.toArray, argTypes := ats }, ty, pos, after, none⟩ :: rest) a w :=
  r_call hF (evList_map _ _ hx) hf hd hc (fun _ _ h => h) (fun _ h => h) k
theorem r_callrn {f : FuncId} {xs : List Operand} {vs : List Value} {ats : Array TypeId} {R : Value → World → Prop} (hF : Fr n ds a F) (hx : evList F xs = some vs)
    (hf : ∀ w, (callFunc f vs.toArray).run P w = .ok (.enter f vs.toArray) w)
    (hc : Calls P f vs.toArray w (Ret R))
    (k : ∀ v w' a', R v w' → Fr n ds a' F → wpList P ops Q rest a' w') :
    wpList P ops Q (⟨none, .call { callee := .value (.func f), args := xs.toArray, argTypes := ats }, ty, pos, after, none⟩ :: rest) a w :=
  r_calln hF (evList_map _ _ hx) hf hc (fun _ _ h => h) (fun _ h => h) k

/-! ### constants of the text -/
theorem lit_u8 {c : Nat} (h : Nat.blt c 256 = true) : Value.int .u8 (@OfNat.ofNat Int c instOfNat) = u8 (UInt8.ofNat (@OfNat.ofNat Nat c (instOfNatNat c))) := by
  have h' : c < 256 := Nat.blt_eq.mp h
  show Value.int .u8 ((c : Nat) : Int) = u8 (UInt8.ofNat c)
  simp [Nat.mod_eq_of_lt h']
theorem lit_u32 {c : Nat} (h : Nat.blt c 4294967296 = true) : Value.int .u32 (@OfNat.ofNat Int c instOfNat) = u32 (UInt32.ofNat (@OfNat.ofNat Nat c (instOfNatNat c))) := by
  have h' : c < 4294967296 := Nat.blt_eq.mp h
  show Value.int .u32 ((c : Nat) : Int) = u32 (UInt32.ofNat c)
  simp [Nat.mod_eq_of_lt h']
theorem lit_u64 {c : Nat} (h : Nat.blt c 18446744073709551616 = true) : Value.int .u64 (@OfNat.ofNat Int c instOfNat) = u64 (UInt64.ofNat (@OfNat.ofNat Nat c (instOfNatNat c))) := by
  have h' : c < 18446744073709551616 := Nat.blt_eq.mp h
  show Value.int .u64 ((c : Nat) : Int) = u64 (UInt64.ofNat c)
  simp [Nat.mod_eq_of_lt h']

theorem litI {c : Nat} : @OfNat.ofNat Int c instOfNat = Int.ofNat (@OfNat.ofNat Nat c (instOfNatNat c)) := rfl
theorem castI {c : Nat} : (c : Int) = Int.ofNat c := rfl
theorem addI {i j : Int} {i' j' : Nat} (h1 : i = Int.ofNat i') (h2 : j = Int.ofNat j') : i + j = Int.ofNat (i' + j') := by subst h1 h2; rfl
theorem mulI {i j : Int} {i' j' : Nat} (h1 : i = Int.ofNat i') (h2 : j = Int.ofNat j') : i * j = Int.ofNat (i' * j') := by subst h1 h2; rfl
theorem divI {i j : Int} {i' j' : Nat} (h1 : i = Int.ofNat i') (h2 : j = Int.ofNat j') : i / j = Int.ofNat (i' / j') := by subst h1 h2; rfl
theorem modI {i j : Int} {i' j' : Nat} (h1 : i = Int.ofNat i') (h2 : j = Int.ofNat j') : i % j = Int.ofNat (i' % j') := by subst h1 h2; rfl
theorem subI {i j : Int} {i' j' : Nat} (h1 : i = Int.ofNat i') (h2 : j = Int.ofNat j') (h : j' ≤ i') : i - j = Int.ofNat (i' - j') := by
  subst h1 h2; show (i' : Int) - (j' : Int) = ((i' - j' : Nat) : Int); omega
theorem cond_ {c : Operand} {x y : Code} (h : (Code.cond c x y).wp P Q a w) : (Code.cond c x y).wp P Q a w := h
theorem loop_ {x : Code} (h : (Code.loop x).wp P Q a w) : (Code.loop x).wp P Q a w := h
theorem cons_ {o : Oper} (h : wpList P ops Q (o :: rest) a w) : wpList P ops Q (o :: rest) a w := h

theorem rv_len_s {x : Operand} {s : ByteArray} {t : TypeId} (hx : evo F x = some (.string s)) (ht : P.underlying t = some .string) : RunV P F (.call { callee := .builtin .len, args := #[x], argTypes := #[t] }) ty w (.int .i64 (s.size : Int)) := fun ρ hρ _ _ _ _ => by simp [execOp, resolve, invoke, builtin, hρ _ _ hx, Builtin.len_, run_underlying ht, goInt]
theorem rv_len {x : Operand} {v : Option Addr} {m c : Nat} {t e : TypeId} (hx : evo F x = some (.slice v m c)) (ht : P.underlying t = some (.slice e)) : RunV P F (.call { callee := .builtin .len, args := #[x], argTypes := #[t] }) ty w (.int .i64 (m : Int)) := fun ρ hρ _ _ _ _ => by simp [execOp, resolve, invoke, builtin, hρ _ _ hx, Builtin.len_, run_underlying ht, goInt]
theorem rv_len_a {x : Operand} {v : Value} {m : Nat} {t e : TypeId} (hx : evo F x = some v) (ht : P.underlying t = some (.array m e)) : RunV P F (.call { callee := .builtin .len, args := #[x], argTypes := #[t] }) ty w (.int .i64 (m : Int)) := fun ρ hρ _ _ _ _ => by simp [execOp, resolve, invoke, builtin, hρ _ _ hx, Builtin.len_, run_underlying ht, goInt]
theorem rv_extract {x : Operand} {v : Value} {vs : List Value} {i : Nat} (hx : evo F x = some (.tuple vs.toArray)) (hv : vs[i]? = some v) : RunV P F (.extract x i) ty w (v) := fun ρ hρ _ _ _ _ => by simp [execOp, hρ _ _ hx, Instr.extract, hv]
theorem rv_not {x : Operand} {t : TypeId} {p : Prop} [Decidable p] (hx : evo F x = some (.bool (decide p))) : RunV P F (.unOp .not t x) ty w (.bool (decide (¬ p))) := fun ρ hρ _ _ _ _ => by simp [execOp, hρ _ _ hx, Op.unary]
theorem rv_com32 {x : Operand} {t : TypeId} {y : UInt32} (hx : evo F x = some (u32 y)) : RunV P F (.unOp .xor t x) ty w (u32 (~~~y)) := fun ρ hρ _ _ _ _ => by
    have e : BitVec.ofInt 32 IntKind.u32.max = BitVec.allOnes 32 := by decide
    have e2 : BitVec.allOnes 32 ^^^ y.toBitVec = (~~~y).toBitVec := by rw [BitVec.allOnes_xor]; rfl
    simp only [execOp, hρ _ _ hx, Op.unary, IntKind.signed, Op.intBits, IntKind.bits, ofInt_u32, Bool.false_eq_true, if_false, e, back_u32]
    exact congrArg (fun z : BitVec 32 => Result.ok (Next.value (Value.int .u32 (z.toNat : Int))) w) e2

end Go.Bz
