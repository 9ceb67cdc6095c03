/-
  Words for copies with room behind: make with a room of its own, append within the room, a row of cells that is read, by blocks that are known.
-/
import Derived.Test.YtjopmkfpghdlpaaArr
import Derived.Laws.MakeOwn
import Derived.Laws.AppendOwn
namespace Go.Proofs.Ytjopmkfpghdlpaa.A
set_option linter.unusedVariables false
set_option linter.unusedSimpArgs false
open Go.RowKit

/-- the cells behind an address (of a slice; nil, if there are none) -/
def Reads (w : World) (A : Option Addr) (cs : List Value) : Prop := cs = [] ∨ ∃ ad, A = some ad ∧ ∀ j u, cs[j]? = some u → w.cell? (ad.add j) = some u
theorem Reads.nil {w : World} {A : Option Addr} : Reads w A [] := .inl rfl
theorem Reads.below {w w1 : World} {A : Option Addr} {cs : List Value} (h : Reads w A cs) (hb : Below w.heap.size w w1) : Reads w1 A cs := by
  rcases h with h | ⟨ad, e, h⟩
  · exact .inl h
  · refine .inr ⟨ad, e, fun j u hu => ?_⟩
    have h1 := h j u hu
    have hk : (ad.add j).block < w.heap.size := by
      unfold World.cell? at h1
      split at h1
      · rename_i hh
        exact blk_lt hh
      · cases h1
    rw [← h1]
    unfold World.cell?
    rw [hb.block _ hk]
theorem Reads.of_block {w : World} {g off : Nat} {t : TypeId} {all : Array Value} (hg : w.heap[g]? = some (.cells all t (0, 0))) (cs : List Value) (h : ∀ j u, cs[j]? = some u → all[off + j]? = some u) : Reads w (some ⟨g, off, none⟩) cs :=
  .inr ⟨_, rfl, fun j u hu => by rw [add_none, blk_cell hg]; exact h j u hu⟩

section
variable {P : Program}
theorem run_append_nothing {w : World} (t ty e : TypeId) (i : TypeInfo) (ht : P.underlying t = some (.slice e)) (hi : P.info? e = some i) (g sLen sCap : Nat) (A : Option Addr) (c : Nat) (hroom : sLen ≤ sCap) :
    (Builtin.append_ #[t, t] ty #[.slice (some ⟨g, 0, none⟩) sLen sCap, .slice A 0 c]).run P w = .ok (.slice (some ⟨g, 0, none⟩) sLen sCap) w := by
  cases A with
  | none => simp [Builtin.append_, run_underlying ht, sizeOf, typeInfo, hi, Builtin.lenOf, hroom, Builtin.firstCells, storeCells, loadCells, loadCellsFrom]
  | some a => simp [Builtin.append_, run_underlying ht, sizeOf, typeInfo, hi, Builtin.lenOf, hroom, Builtin.firstCells, storeCells, loadCells, loadCellsFrom]

variable {ops : Array Oper} {Q : Exit → Act → World → Prop} {rest : List Oper} {o : Oper} {a : Act}
/-- append within the room: the block is known, and known behind it -/
theorem append_put {W : World} (t e : TypeId) (s x : Operand) (ho : o.op = .call { callee := .builtin .append, args := #[s, x], argTypes := #[t, t] }) (hgd : o.guard = none)
    (size : Nat) (ht : P.underlying t = some (.slice e)) (hi : (P.info? e).map (·.size) = some size)
    (g sLen sCap : Nat) (hs : a.eval s = .slice (some ⟨g, 0, none⟩) sLen sCap) (cur : Array Value) (hg : W.heap[g]? = some (.cells cur e (0, 0)))
    (A : Option Addr) (m c : Nat) (hx : a.eval x = .slice A m c) (news : List Value) (hl : news.length = m * size) (hsz : 0 < size) (hR : Reads W A news) (h1 : ∀ u ∈ news, u.oneCell' = true)
    (hroom : sLen + m ≤ sCap) (hfit : sLen * size + news.length ≤ cur.size) (cs' : Array Value) (hcs : (cur.toList.take (sLen * size) ++ news ++ cur.toList.drop (sLen * size + news.length)).toArray = cs')
    (h : ∀ w1, w1.heap[g]? = some (.cells cs' e (0, 0)) → Upd W w1 g → wpList P ops Q rest (a.put o.dst (.slice (some ⟨g, 0, none⟩) (sLen + m) sCap)) w1) : wpList P ops Q (o :: rest) a W := by
  obtain ⟨i, hi', hsi⟩ : ∃ i, P.info? e = some i ∧ i.size = size := by
    cases hq : P.info? e with
    | none => simp [hq] at hi
    | some i => exact ⟨i, rfl, by simpa [hq] using hi⟩
  have run : ∀ v w1, (Builtin.append_ #[t, t] o.type #[.slice (some ⟨g, 0, none⟩) sLen sCap, .slice A m c]).run P W = .ok v w1 → (execOp a.eval o).run P W = .ok (.value v) w1 := by
    intro v w1 hr
    unfold execOp
    simp only [ho, resolve, invoke, builtin, Sem.run_bind, Sem.run_pure, Result.andThen_ok, List.map_toArray, List.map_cons, List.map_nil, hs, hx, hr]
  by_cases hm : m = 0
  · subst hm
    have hn : news = [] := List.eq_nil_of_length_eq_zero (by rw [hl, Nat.zero_mul])
    subst hn
    refine ev_val hgd (run _ _ (run_append_nothing t o.type e i ht hi' g sLen sCap A c (by omega))) (h W ?_ ⟨by rfl, by rfl, by rfl, by rfl, by intros; rfl⟩)
    rw [hg, ← hcs]
    simp
  · have hn : news ≠ [] := by
      intro h0
      rw [h0, List.length_nil] at hl
      have := Nat.mul_pos (Nat.pos_of_ne_zero hm) hsz
      omega
    rcases hR with h0 | ⟨ad, rfl, hR⟩
    · exact absurd h0 hn
    · subst hsi
      refine ev_val hgd (run _ _ (run_append_room W t o.type e i ht hi' g sLen sCap cur hg ad m c news hl hR h1 hroom hfit)) (h _ ?_ (Upd.setRow W g _))
      rw [hcs]
      exact setRow_heap W g cur cs' e (0, 0) hg
theorem make_new {W : World} (t e : TypeId) (l c : Operand) (ho : o.op = .makeSlice t l c) (hgd : o.guard = none) (ht : P.underlying t = some (.slice e)) (z : Value) (size bytes : Nat)
    (hi : (P.info? e).map (fun i => (i.zero, i.size, i.bytes)) = some (some z, size, bytes)) (kl kc : IntKind) (n : Nat) (hl : a.eval l = .int kl 0) (C : Int) (hc : a.eval c = .int kc C) (hC : C = n) (hb : bytes * n ≤ 281474976710656) (h63 : (n : Int) ≤ 9223372036854775807)
    (h : ∀ g w1, New W w1 g (madeCells z.cells (n * size)) e → wpList P ops Q rest (a.put o.dst (.slice (some ⟨g, 0, none⟩) 0 n)) w1) : wpList P ops Q (o :: rest) a W := by
  subst hC
  obtain ⟨i, hi', hq⟩ := Option.map_eq_some_iff.1 hi
  simp only [Prod.mk.injEq] at hq
  obtain ⟨h1, rfl, rfl⟩ := hq
  have hb' : (i.bytes : Int) * ((n : Nat) : Int) ≤ 281474976710656 := by
    have h : ((i.bytes * n : Nat) : Int) ≤ 281474976710656 := by omega
    rwa [Int.natCast_mul] at h
  have hr := run_make (P := P) W t e i z ht hi' h1 kl kc 0 n (Int.le_refl _) (by omega) hb' h63
  simp only [Int.toNat_zero, Int.toNat_natCast] at hr
  refine ev_val hgd ?_ (h _ _ (New.alloc W _ e))
  unfold execOp
  simp only [ho, hl, hc, Sem.run_bind, Sem.run_pure, hr, Result.andThen_ok]
end
end Go.Proofs.Ytjopmkfpghdlpaa.A
