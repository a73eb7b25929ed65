/- A conversion of a slice of bytes to its own type, and a conversion of a text to bytes: the row gets a mark behind its last cell. No condition: a library of lemmas. -/
import Derived.Test.YtamghofogkdafaaMore
set_option linter.all false
namespace Go.Bz
variable {n : Nat} {ds : List Deferred} {a : Act} {F : List (Nat × Value)} {P : Program} {ops : Array Oper} {Q : Exit → Act → World → Prop} {rest : List Oper} {w w' : World} {d : Nat} {ty : TypeId} {pos : String} {after : Array Edge} {M : List Asrt}

theorem run_mark (w : World) (t e : TypeId) (b m c : Nat) (cells : Array Value) (T : TypeId) (ht : P.underlying t = some (.slice e)) (he : P.underlying e = some (.int .u8)) (hb : w.heap[b]? = some (.cells cells T (0, 0))) :
    (convert t t (.slice (some ⟨b, 0, none⟩) m c)).run P w = .ok (.slice (some ⟨b, 0, none⟩) m c) (w.freeze ⟨b, cells.size, none⟩ 1) := by
  have hsh : w.shape? b = some (T, cells.size) := by unfold World.shape?; rw [hb]
  simp [convert, run_underlying ht, run_underlying he, markStringish, hsh]
theorem freeze_env (w : World) (x : Addr) (k : Nat) : Env w (w.freeze x k) := by
  unfold World.freeze
  split
  · exact Env.refl w
  · exact ⟨rfl, rfl, rfl, by simp⟩
theorem r_mark {t e : TypeId} {x : Operand} {T b c : Nat} {bs : List UInt8} (hF : Fr n ds a F) (hx : evo F x = some (tx (some ⟨b, 0, none⟩) c bs)) (hS : St w (txR T (some ⟨b, 0, none⟩) c bs :: M)) (ht : sliceB P t = some e) (he : P.underlying e = some (.int .u8)) (hd : dstOk n (some d) = true)
    (k : ∀ a' w', Fr n ds a' ((d, tx (some ⟨b, 0, none⟩) c bs) :: F) → St w' (txA (some ⟨b, 0, none⟩) c bs :: M) → wpList P ops Q rest a' w') :
    wpList P ops Q (⟨some d, .convert t t x, ty, pos, after, none⟩ :: rest) a w := by
  obtain ⟨hh, h1⟩ := hS.head
  rcases hh with ⟨h, _⟩ | ⟨g, m, cap, cur, hv, hl, hg, hkc, hml, hcs, htk⟩
  · cases h
  unfold tx at hv
  simp only [Value.slice.injEq, Option.some.injEq, Addr.mk.injEq, true_and, and_true] at hv
  obtain ⟨rfl, rfl, rfl⟩ := hv
  have hbl : b < w.heap.size := (Array.getElem?_eq_some_iff.1 hg).1
  have hr := run_mark (P := P) w t e b bs.length c cur T (sliceB_spec ht) he hg
  have hfz : (w.freeze ⟨b, cur.size, none⟩ 1).heap[b]? = some (.cells cur T (cur.size, cur.size + 1)) := by
    unfold World.freeze
    rw [if_neg (by decide)]
    simp only [Array.getElem?_modify, if_pos]
    rw [hg]; rfl
  have hne : ∀ k, k ≠ b → (w.freeze ⟨b, cur.size, none⟩ 1).heap[k]? = w.heap[k]? := fun k hk => by
    unfold World.freeze
    rw [if_neg (by decide)]
    simp only [Array.getElem?_modify]
    rw [if_neg (by omega)]
  refine r_run (w' := w.freeze ⟨b, cur.size, none⟩ 1) hF hd (by simp [execOp, hF.eval hx, tx, hr]) (fun a' h => k a' _ h (hS.step (freeze_env w _ _) (fun j _ hj => hne j ?_) ?_ (fun _ h => h.elim) (fun j hj => .inl hj)))
  · rintro rfl; exact hj ⟨_, _, _, rfl, rfl⟩
  · refine .inr ⟨b, 0, bs.length, c, cur, T, _, rfl, hkc, by simpa using hl, hfz, fun j u hj => ?_, h1⟩
    rw [← htk, List.getElem?_take] at hj
    split at hj
    · simpa using hj
    · cases hj
end Go.Bz
