/- The contract of the reference's Join; contracts of what was proved before, said of texts. No condition beyond the stated bounds. -/
import Derived.Test.YtamghofogkdafaaAuto
import Derived.Test.YtamghofogkdafaaRef5
import Derived.Test.YtamghofogkdafaaText
import Derived.Test.YtamghofogkdafaaJSpec
set_option linter.all false
namespace Go.Proofs.Ytamghofogkdafaa
open Go.Bz Go.Proofs
set_option maxRecDepth 100000
set_option maxHeartbeats 4000000
set_option linter.unusedSimpArgs false

theorem Ret.imp {R R' : Value → World → Prop} {w : World} (h : ∀ v, R v w → R' v w) : ∀ {e : Ending}, Ret R e w → Ret R' e w := by
  intro e he
  cases e with
  | returned v => exact h v he
  | _ => exact he

def joinOf (ps : List Tx) : List UInt8 := (ps.map Tx.b).flatten
theorem joinOf_take (ps : List Tx) (k : Nat) (hk : k < ps.length) : joinOf (ps.take (k + 1)) = joinOf (ps.take k) ++ ps[k].b := by
  unfold joinOf
  rw [List.take_succ_eq_append_getElem hk, List.map_append, List.flatten_append]; simp
theorem joinOf_take_le (ps : List Tx) (k : Nat) : (joinOf (ps.take k)).length ≤ (joinOf ps).length := by
  have e : joinOf ps = joinOf (ps.take k) ++ joinOf (ps.drop k) := by
    unfold joinOf
    rw [← List.flatten_append, ← List.map_append, List.take_append_drop]
  rw [e, List.length_append]; omega

theorem rjoin_calls (ps : List Tx) (y : Option Addr) (cy : Nat) (hb : (joinOf ps).length < 1099511627776) (hn : ps.length < 1099511627776) (w : World) (M : List Asrt) (hS : St w M) (hi : In M (slA 1 (txs y cy ps) (ps.map Tx.v))) (hj : ∀ p ∈ ps, In M (txA p.x p.c p.b)) :
    Calls Try.prog 56 #[txs y cy ps] w (Ret fun v w' => ∃ x c, v = tx x c (joinOf ps) ∧ St w' (txR 5 x c (joinOf ps) :: M)) := by
  refine r_enter (vs := [txs y cy ps]) Try.func56 rfl Try.ntmps56 rfl fun a hF => ?_
  have hS := hS.nilTx (T := 5)
  repeat' (first | ((with_reducible refine cons_ ?_); first | (with_reducible apply r_val (op := .assign _) hF) | (with_reducible apply r_val (op := .move _) hF) | (with_reducible apply r_val (op := .call ⟨.builtin .len, _, _⟩) hF) | (with_reducible apply r_val (op := .binOp _ _ _ _ _) hF) | (with_reducible apply r_val (op := .indexAddr _ _ _) hF) | (with_reducible apply r_val (op := .load _ _) hF) | ((with_reducible apply r_appT0 (d := 16) hF hS); exact rfl; exact rfl; (exact qI); exact rfl; exact rfl; exact rfl; exact rfl; (exact qL); exact rfl; clear hF hS; intro a w x16 c16 hF hS) | ((with_reducible apply r_appT (d := 16) hF hS); exact rfl; exact rfl; (repeat (first | with_reducible exact Rm.here | with_reducible apply Rm.there)); (exact qI); exact rfl; exact rfl; exact rfl; exact rfl; (exact qL); exact rfl; clear hF hS; intro a w x16 c16 hF hS) | ((with_reducible apply r_append (d := 16) hF hS); exact rfl; exact rfl; (repeat (first | with_reducible exact Rm.here | with_reducible apply Rm.there)); exact St.get (A := slA _ _ _) hS qI; exact rfl; exact rfl; exact rfl; exact rfl; (exact qL); (exact qL); exact rfl; clear hF hS; intro a w x16 c16 hF hS)) | ((with_reducible apply runv_); first | with_reducible exact rv_nilT (ty := 22) | ((with_reducible apply rv_assign); exact rfl) | ((with_reducible apply rv_move); exact rfl) | ((with_reducible apply rv_lenTs); exact rfl; exact rfl) | ((with_reducible apply rv_ixTs); exact rfl; exact rfl; exact rfl; exact rfl; (exact qN); exact hS.get qI; (exact qL)) | ((with_reducible apply rv_ixSl); exact rfl; exact rfl; exact rfl; exact rfl; (exact qN); omega; (exact qT)) | ((with_reducible apply rv_ldTs); exact rfl; exact rfl; exact hS.get qI; (first | assumption | exact rfl)) | ((with_reducible apply rv_bin); exact rfl; exact rfl; (first | with_reducible exact bin_lss | ((with_reducible apply bin_add) <;> (exact qL)))) | ((with_reducible apply rv_len); exact rfl; exact rfl) | ((with_reducible apply rv_ldG); exact rfl; exact rfl; exact hS.get qI; (first | assumption | exact rfl)) | ((with_reducible apply rv_load1); exact rfl; exact rfl; (exact qC))) | ((with_reducible refine dst_ ?_); exact rfl) | ((with_reducible apply nextf_); clear hF; intro a hF) | (with_reducible refine wp_seq ?_) | (with_reducible refine r_region ?_) | (with_reducible refine wp_block ?_) | (with_reducible refine wp_skip ?_) | (with_reducible refine wp_ret ?_) | (with_reducible refine wp_exit ?_) | (with_reducible refine q_then ?_) | (with_reducible refine q_block ?_) | (with_reducible refine q_block_exit ?_) | (with_reducible refine q_then_exit ?_) | (with_reducible refine q_then_ret ?_) | (with_reducible refine q_block_ret ?_) | (with_reducible refine r_nil ?_) | ((with_reducible refine q_block_out ?_ ?_); rfl) | ((with_reducible refine cond_ ?_); first | (refine r_condb (b := true) hF rfl (fun _ => ?_) (fun h => Bool.noConfusion h)) | (refine r_condb (b := false) hF rfl (fun h => Bool.noConfusion h) (fun _ => ?_)) | (refine r_cond hF rfl (fun hc => ?_) (fun hc => ?_) <;> (try (exfalso; omega)))))
  refine r_loop (σ := Nat) (fun k a w => k ≤ ps.length ∧ ∃ x c, Fr 18 [] a [(4, .int .i64 (k : Int)), (3, tx x c (joinOf (ps.take k))), (0, txs y cy ps)] ∧
    St w (txR 5 x c (joinOf (ps.take k)) :: M)) (fun k => ps.length - k) 0 ?_ ?_
  · exact ⟨by omega, none, 0, qF, hS⟩
  intro k a w ⟨hk, x, c, hF, hS⟩
  by_cases hlt : k < ps.length
  · have hq : ps[k]? = some ps[k] := List.getElem?_eq_getElem hlt
    have hx := hj _ (List.getElem_mem hlt)
    have ht := joinOf_take ps k hlt
    have hle := joinOf_take_le ps (k + 1)
    have hlen : (joinOf (ps.take (k + 1))).length = (joinOf (ps.take k)).length + ps[k].b.length := by rw [ht, List.length_append]
    generalize ps[k] = p at hq hx ht hlen
    repeat' (first | ((with_reducible refine cons_ ?_); first | (with_reducible apply r_val (op := .assign _) hF) | (with_reducible apply r_val (op := .move _) hF) | (with_reducible apply r_val (op := .call ⟨.builtin .len, _, _⟩) hF) | (with_reducible apply r_val (op := .binOp _ _ _ _ _) hF) | (with_reducible apply r_val (op := .indexAddr _ _ _) hF) | (with_reducible apply r_val (op := .load _ _) hF) | ((with_reducible apply r_appT0 (d := 16) hF hS); exact rfl; exact rfl; (exact qI); exact rfl; exact rfl; exact rfl; exact rfl; (exact qL); exact rfl; clear hF hS; intro a w x16 c16 hF hS) | ((with_reducible apply r_appT (d := 16) hF hS); exact rfl; exact rfl; (repeat (first | with_reducible exact Rm.here | with_reducible apply Rm.there)); (exact qI); exact rfl; exact rfl; exact rfl; exact rfl; (exact qL); exact rfl; clear hF hS; intro a w x16 c16 hF hS) | ((with_reducible apply r_append (d := 16) hF hS); exact rfl; exact rfl; (repeat (first | with_reducible exact Rm.here | with_reducible apply Rm.there)); exact St.get (A := slA _ _ _) hS qI; exact rfl; exact rfl; exact rfl; exact rfl; (exact qL); (exact qL); exact rfl; clear hF hS; intro a w x16 c16 hF hS)) | ((with_reducible apply runv_); first | with_reducible exact rv_nilT (ty := 22) | ((with_reducible apply rv_assign); exact rfl) | ((with_reducible apply rv_move); exact rfl) | ((with_reducible apply rv_lenTs); exact rfl; exact rfl) | ((with_reducible apply rv_ixTs); exact rfl; exact rfl; exact rfl; exact rfl; (exact qN); exact hS.get qI; (exact qL)) | ((with_reducible apply rv_ixSl); exact rfl; exact rfl; exact rfl; exact rfl; (exact qN); omega; (exact qT)) | ((with_reducible apply rv_ldTs); exact rfl; exact rfl; exact hS.get qI; (first | assumption | exact rfl)) | ((with_reducible apply rv_bin); exact rfl; exact rfl; (first | with_reducible exact bin_lss | ((with_reducible apply bin_add) <;> (exact qL)))) | ((with_reducible apply rv_len); exact rfl; exact rfl) | ((with_reducible apply rv_ldG); exact rfl; exact rfl; exact hS.get qI; (first | assumption | exact rfl)) | ((with_reducible apply rv_load1); exact rfl; exact rfl; (exact qC))) | ((with_reducible refine dst_ ?_); exact rfl) | ((with_reducible apply nextf_); clear hF; intro a hF) | (with_reducible refine wp_seq ?_) | (with_reducible refine r_region ?_) | (with_reducible refine wp_block ?_) | (with_reducible refine wp_skip ?_) | (with_reducible refine wp_ret ?_) | (with_reducible refine wp_exit ?_) | (with_reducible refine q_then ?_) | (with_reducible refine q_block ?_) | (with_reducible refine q_block_exit ?_) | (with_reducible refine q_then_exit ?_) | (with_reducible refine q_then_ret ?_) | (with_reducible refine q_block_ret ?_) | (with_reducible refine r_nil ?_) | ((with_reducible refine q_block_out ?_ ?_); rfl) | ((with_reducible refine cond_ ?_); first | (refine r_condb (b := true) hF rfl (fun _ => ?_) (fun h => Bool.noConfusion h)) | (refine r_condb (b := false) hF rfl (fun h => Bool.noConfusion h) (fun _ => ?_)) | (refine r_cond hF rfl (fun hc => ?_) (fun hc => ?_) <;> (try (exfalso; omega)))))
    rw [← ht] at hF hS
    exact ⟨k + 1, by omega, by omega, x16, c16, qF, hS⟩
  have hk : k = ps.length := by omega
  subst hk
  rw [List.take_length] at hF hS
  repeat' (first | ((with_reducible refine cons_ ?_); first | (with_reducible apply r_val (op := .assign _) hF) | (with_reducible apply r_val (op := .move _) hF) | (with_reducible apply r_val (op := .call ⟨.builtin .len, _, _⟩) hF) | (with_reducible apply r_val (op := .binOp _ _ _ _ _) hF) | (with_reducible apply r_val (op := .indexAddr _ _ _) hF) | (with_reducible apply r_val (op := .load _ _) hF) | ((with_reducible apply r_appT0 (d := 16) hF hS); exact rfl; exact rfl; (exact qI); exact rfl; exact rfl; exact rfl; exact rfl; (exact qL); exact rfl; clear hF hS; intro a w x16 c16 hF hS) | ((with_reducible apply r_appT (d := 16) hF hS); exact rfl; exact rfl; (repeat (first | with_reducible exact Rm.here | with_reducible apply Rm.there)); (exact qI); exact rfl; exact rfl; exact rfl; exact rfl; (exact qL); exact rfl; clear hF hS; intro a w x16 c16 hF hS) | ((with_reducible apply r_append (d := 16) hF hS); exact rfl; exact rfl; (repeat (first | with_reducible exact Rm.here | with_reducible apply Rm.there)); exact St.get (A := slA _ _ _) hS qI; exact rfl; exact rfl; exact rfl; exact rfl; (exact qL); (exact qL); exact rfl; clear hF hS; intro a w x16 c16 hF hS)) | ((with_reducible apply runv_); first | with_reducible exact rv_nilT (ty := 22) | ((with_reducible apply rv_assign); exact rfl) | ((with_reducible apply rv_move); exact rfl) | ((with_reducible apply rv_lenTs); exact rfl; exact rfl) | ((with_reducible apply rv_ixTs); exact rfl; exact rfl; exact rfl; exact rfl; (exact qN); exact hS.get qI; (exact qL)) | ((with_reducible apply rv_ixSl); exact rfl; exact rfl; exact rfl; exact rfl; (exact qN); omega; (exact qT)) | ((with_reducible apply rv_ldTs); exact rfl; exact rfl; exact hS.get qI; (first | assumption | exact rfl)) | ((with_reducible apply rv_bin); exact rfl; exact rfl; (first | with_reducible exact bin_lss | ((with_reducible apply bin_add) <;> (exact qL)))) | ((with_reducible apply rv_len); exact rfl; exact rfl) | ((with_reducible apply rv_ldG); exact rfl; exact rfl; exact hS.get qI; (first | assumption | exact rfl)) | ((with_reducible apply rv_load1); exact rfl; exact rfl; (exact qC))) | ((with_reducible refine dst_ ?_); exact rfl) | ((with_reducible apply nextf_); clear hF; intro a hF) | (with_reducible refine wp_seq ?_) | (with_reducible refine r_region ?_) | (with_reducible refine wp_block ?_) | (with_reducible refine wp_skip ?_) | (with_reducible refine wp_ret ?_) | (with_reducible refine wp_exit ?_) | (with_reducible refine q_then ?_) | (with_reducible refine q_block ?_) | (with_reducible refine q_block_exit ?_) | (with_reducible refine q_then_exit ?_) | (with_reducible refine q_then_ret ?_) | (with_reducible refine q_block_ret ?_) | (with_reducible refine r_nil ?_) | ((with_reducible refine q_block_out ?_ ?_); rfl) | ((with_reducible refine cond_ ?_); first | (refine r_condb (b := true) hF rfl (fun _ => ?_) (fun h => Bool.noConfusion h)) | (refine r_condb (b := false) hF rfl (fun h => Bool.noConfusion h) (fun _ => ?_)) | (refine r_cond hF rfl (fun hc => ?_) (fun hc => ?_) <;> (try (exfalso; omega)))))
  exact ret1 rfl hF rfl rfl ⟨x, c, rfl, hS⟩

/-! ### said of texts -/
theorem joinOf_cons (p : Tx) (ps : List Tx) : joinOf (p :: ps) = p.b ++ joinOf ps := by simp [joinOf]
theorem joinOf_nil : joinOf [] = [] := rfl
theorem jn2 (y : Option Addr) (cy : Nat) (x0 x1 : Option Addr) (c0 c1 : Nat) (b0 b1 : List UInt8) (w : World) (M : List Asrt) (hS : St w M) (hi : In M (slA 1 (.slice y 2 cy) [tx x0 c0 b0, tx x1 c1 b1]))
    (h0 : In M (txA x0 c0 b0)) (h1 : In M (txA x1 c1 b1)) (hb : b0.length + b1.length < 1099511627776) :
    Calls Try.prog 56 #[.slice y 2 cy] w (Ret fun v w' => ∃ x c, v = tx x c (b0 ++ b1) ∧ St w' (txA x c (b0 ++ b1) :: M)) := by
  have e : joinOf [⟨x0, c0, b0⟩, ⟨x1, c1, b1⟩] = b0 ++ b1 := by simp [joinOf]
  refine (rjoin_calls [⟨x0, c0, b0⟩, ⟨x1, c1, b1⟩] y cy (by rw [e, List.length_append]; exact hb) (by simp) w M hS hi ?_).mono fun _ w' h => Ret.imp (fun v h => ?_) h
  · intro p hp
    simp only [List.mem_cons, List.not_mem_nil, or_false] at hp
    rcases hp with rfl | rfl
    · exact h0
    · exact h1
  · obtain ⟨x, c, rfl, hS⟩ := h
    rw [e] at hS ⊢
    exact ⟨x, c, rfl, hS.sealT⟩
theorem jn3 (y : Option Addr) (cy : Nat) (x0 x1 x2 : Option Addr) (c0 c1 c2 : Nat) (b0 b1 b2 : List UInt8) (w : World) (M : List Asrt) (hS : St w M) (hi : In M (slA 1 (.slice y 3 cy) [tx x0 c0 b0, tx x1 c1 b1, tx x2 c2 b2]))
    (h0 : In M (txA x0 c0 b0)) (h1 : In M (txA x1 c1 b1)) (h2 : In M (txA x2 c2 b2)) (hb : b0.length + b1.length + b2.length < 1099511627776) :
    Calls Try.prog 56 #[.slice y 3 cy] w (Ret fun v w' => ∃ x c, v = tx x c (b0 ++ (b1 ++ b2)) ∧ St w' (txA x c (b0 ++ (b1 ++ b2)) :: M)) := by
  have e : joinOf [⟨x0, c0, b0⟩, ⟨x1, c1, b1⟩, ⟨x2, c2, b2⟩] = b0 ++ (b1 ++ b2) := by simp [joinOf]
  refine (rjoin_calls [⟨x0, c0, b0⟩, ⟨x1, c1, b1⟩, ⟨x2, c2, b2⟩] y cy (by rw [e]; simp only [List.length_append]; omega) (by simp) w M hS hi ?_).mono fun _ w' h => Ret.imp (fun v h => ?_) h
  · intro p hp
    simp only [List.mem_cons, List.not_mem_nil, or_false] at hp
    rcases hp with rfl | rfl | rfl
    · exact h0
    · exact h1
    · exact h2
  · obtain ⟨x, c, rfl, hS⟩ := h
    rw [e] at hS ⊢
    exact ⟨x, c, rfl, hS.sealT⟩
theorem jn4 (y : Option Addr) (cy : Nat) (x0 x1 x2 x3 : Option Addr) (c0 c1 c2 c3 : Nat) (b0 b1 b2 b3 : List UInt8) (w : World) (M : List Asrt) (hS : St w M) (hi : In M (slA 1 (.slice y 4 cy) [tx x0 c0 b0, tx x1 c1 b1, tx x2 c2 b2, tx x3 c3 b3]))
    (h0 : In M (txA x0 c0 b0)) (h1 : In M (txA x1 c1 b1)) (h2 : In M (txA x2 c2 b2)) (h3 : In M (txA x3 c3 b3)) (hb : b0.length + b1.length + b2.length + b3.length < 1099511627776) :
    Calls Try.prog 56 #[.slice y 4 cy] w (Ret fun v w' => ∃ x c, v = tx x c (b0 ++ (b1 ++ (b2 ++ b3))) ∧ St w' (txA x c (b0 ++ (b1 ++ (b2 ++ b3))) :: M)) := by
  have e : joinOf [⟨x0, c0, b0⟩, ⟨x1, c1, b1⟩, ⟨x2, c2, b2⟩, ⟨x3, c3, b3⟩] = b0 ++ (b1 ++ (b2 ++ b3)) := by simp [joinOf]
  refine (rjoin_calls [⟨x0, c0, b0⟩, ⟨x1, c1, b1⟩, ⟨x2, c2, b2⟩, ⟨x3, c3, b3⟩] y cy (by rw [e]; simp only [List.length_append]; omega) (by simp) w M hS hi ?_).mono fun _ w' h => Ret.imp (fun v h => ?_) h
  · intro p hp
    simp only [List.mem_cons, List.not_mem_nil, or_false] at hp
    rcases hp with rfl | rfl | rfl | rfl
    · exact h0
    · exact h1
    · exact h2
    · exact h3
  · obtain ⟨x, c, rfl, hS⟩ := h
    rw [e] at hS ⊢
    exact ⟨x, c, rfl, hS.sealT⟩
theorem jn6 (y : Option Addr) (cy : Nat) (x0 x1 x2 x3 x4 x5 : Option Addr) (c0 c1 c2 c3 c4 c5 : Nat) (b0 b1 b2 b3 b4 b5 : List UInt8) (w : World) (M : List Asrt) (hS : St w M) (hi : In M (slA 1 (.slice y 6 cy) [tx x0 c0 b0, tx x1 c1 b1, tx x2 c2 b2, tx x3 c3 b3, tx x4 c4 b4, tx x5 c5 b5]))
    (h0 : In M (txA x0 c0 b0)) (h1 : In M (txA x1 c1 b1)) (h2 : In M (txA x2 c2 b2)) (h3 : In M (txA x3 c3 b3)) (h4 : In M (txA x4 c4 b4)) (h5 : In M (txA x5 c5 b5)) (hb : b0.length + b1.length + b2.length + b3.length + b4.length + b5.length < 1099511627776) :
    Calls Try.prog 56 #[.slice y 6 cy] w (Ret fun v w' => ∃ x c, v = tx x c (b0 ++ (b1 ++ (b2 ++ (b3 ++ (b4 ++ b5))))) ∧ St w' (txA x c (b0 ++ (b1 ++ (b2 ++ (b3 ++ (b4 ++ b5))))) :: M)) := by
  have e : joinOf [⟨x0, c0, b0⟩, ⟨x1, c1, b1⟩, ⟨x2, c2, b2⟩, ⟨x3, c3, b3⟩, ⟨x4, c4, b4⟩, ⟨x5, c5, b5⟩] = b0 ++ (b1 ++ (b2 ++ (b3 ++ (b4 ++ b5)))) := by simp [joinOf]
  refine (rjoin_calls [⟨x0, c0, b0⟩, ⟨x1, c1, b1⟩, ⟨x2, c2, b2⟩, ⟨x3, c3, b3⟩, ⟨x4, c4, b4⟩, ⟨x5, c5, b5⟩] y cy (by rw [e]; simp only [List.length_append]; omega) (by simp) w M hS hi ?_).mono fun _ w' h => Ret.imp (fun v h => ?_) h
  · intro p hp
    simp only [List.mem_cons, List.not_mem_nil, or_false] at hp
    rcases hp with rfl | rfl | rfl | rfl | rfl | rfl
    · exact h0
    · exact h1
    · exact h2
    · exact h3
    · exact h4
    · exact h5
  · obtain ⟨x, c, rfl, hS⟩ := h
    rw [e] at hS ⊢
    exact ⟨x, c, rfl, hS.sealT⟩

theorem rnum_t (x : UInt64) (w : World) (M : List Asrt) (hS : St w M) :
    Calls Try.prog 57 #[u64 x] w (Ret fun v w' => ∃ b, v = tx (some ⟨b, 0, none⟩) 8 (be64 x) ∧ St w' (txA (some ⟨b, 0, none⟩) 8 (be64 x) :: M)) := by
  refine (rnumber_calls x w M hS).mono fun _ w' h => Ret.imp (fun v h => ?_) h
  obtain ⟨b, rfl, hS⟩ := h
  refine ⟨b, by unfold tx; rw [be64_n], ?_⟩
  have := hS.blkTA (l := be64 x) (by rw [be64_n]; decide)
  rw [be64_n] at this; exact this
theorem rof_t (x : Option Addr) (c : Nat) (b : List UInt8) (w : World) (M : List Asrt) (hS : St w M) (hi : In M (txA x c b)) (hb : b.length < 1099511627776) :
    Calls Try.prog 33 #[tx x c b] w (Ret fun v w' => v = .agg ((sha b).map u8).toArray ∧ St w' M) := rof_calls x c b hb w M hS hi
theorem same_t (x y : Option Addr) (cx cy : Nat) (b d : List UInt8) (w : World) (M : List Asrt) (hS : St w M) (hi : In M (txA x cx b)) (hj : In M (txA y cy d)) :
    Calls Try.prog 13 #[tx x cx b, tx y cy d] w (Ret fun v w' => v = .bool (decide (b = d)) ∧ St w' M) := same_calls x y cx cy b d w M hS hi hj
theorem sum_t (x : Option Addr) (c : Nat) (b : List UInt8) (w : World) (M : List Asrt) (hS : St w M) (hi : In M (txA x c b)) (hb : b.length < 4611686018427387904) :
    Calls Try.prog 92 #[tx x c b] w (Ret fun v w' => v = .agg ((sha b).map u8).toArray ∧ St w' M) := sum_calls x c b hb w M hS hi
end Go.Proofs.Ytamghofogkdafaa
