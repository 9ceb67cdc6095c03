/-
  The law FramesCut: what its parts hand back (plain and contracts).
-/
import Derived.Test.YtccmeiflahnleaaDoorK3
import Derived.Test.YtccmeiflahnleaaDoorU2
namespace Go.Proofs.YtccmeiflahnleaaDoor.A
set_option linter.unusedVariables false
set_option linter.unusedSimpArgs false
open Go.RowKit

theorem while_take {α : Type} (p : α → Bool) : ∀ L : List α, L.takeWhile p = L.take (L.takeWhile p).length ∧ (∀ k x, k < (L.takeWhile p).length → L[k]? = some x → p x = true) ∧ ((L.takeWhile p).length = L.length ∨ ∃ x, L[(L.takeWhile p).length]? = some x ∧ p x = false)
  | [] => ⟨rfl, (fun k x h => absurd h (by simp)), .inl rfl⟩
  | a :: t => by
    obtain ⟨h1, h2, h3⟩ := while_take p t
    by_cases h : p a = true
    · rw [List.takeWhile_cons_of_pos h]
      refine ⟨?_, fun k x hk hx => ?_, ?_⟩
      · rw [List.length_cons, List.take_succ_cons, ← h1]
      · cases k with
        | zero => simp at hx; rw [← hx]; exact h
        | succ k => exact h2 k x (by simpa using hk) (by simpa using hx)
      · rcases h3 with h3 | ⟨x, hx, hp⟩
        · exact .inl (by rw [List.length_cons, List.length_cons, h3])
        · exact .inr ⟨x, by simpa using hx, hp⟩
    · rw [List.takeWhile_cons_of_neg h]
      exact ⟨rfl, (fun k x hk => absurd hk (by simp)), .inr ⟨a, rfl, by simpa using h⟩⟩

def Fm.part (x : Fm) : Part := ⟨some ⟨x.g, 0, none⟩, x.body.length, x.body⟩
theorem enc22_fm (xs : List Fm) : xs.map Fm.val = enc22 (xs.map Fm.part) := by
  unfold enc22
  rw [List.map_map]
  rfl
/-- a row of bodies -/
structure RowAt (wr : World) (L : Option Addr) (qs : List Part) : Prop where
  reads : Reads wr L (enc22 qs)
  bytes : ∀ p ∈ qs, Bytes wr p.A p.bs
theorem RowAt.later {w wr : World} {L : Option Addr} {qs : List Part} (h : RowAt w L qs) (k : Below w.heap.size w wr) : RowAt wr L qs := ⟨h.reads.below k, fun p hp => (h.bytes p hp).below k⟩

theorem read_ret (A : Option Addr) (c n : Nat) (bs : List Nat) (Y : List (List Nat × Nat)) (w : World) (B : Bytes w A bs) (T : TabAt w) (hn : n = bs.length) (hc : n ≤ c) (hA : c = 0 ∨ ∃ g0 off0, A = some ⟨g0, off0, none⟩) (hY : readP bs = Y) (y gy : Nat) (hy : y = Y.length) (hg : gy = Y.foldl (fun _ x => x.2) 0) :
    Calls Tryd.prog 28 #[.slice A n c] w fun e w' => ∃ L qs, e = .returned (.tuple #[.slice L y y, .int .i64 (gy : Int)]) ∧ RowAt w' L qs ∧ qs.map (·.bs) = Y.map (·.1) ∧ Below w.heap.size w w' := by
  subst hn
  refine (xread A c bs w B T hc hA).mono ?_
  rintro e w' ⟨L, xs, he, hr, ⟨ha, hb⟩, hq⟩
  rw [hY] at ha
  have e1 : xs.length = y := by rw [hy, ← ha]; exact (List.length_map _).symm
  have e2 : lastTo xs = gy := by
    rw [hg, ← ha]
    unfold lastTo pairs
    rw [List.foldl_map]
  refine ⟨L, xs.map Fm.part, by rw [he, e1, e2], ⟨by rw [← enc22_fm]; exact hr, fun p hp => ?_⟩, ?_, hq⟩
  · obtain ⟨x, hx, rfl⟩ := List.mem_map.1 hp
    obtain ⟨_, h2, _, h4, t, ht⟩ := hb.1 x hx
    exact Bytes.of_block ht h2 (by show (x.body.length : Int) ≤ _; omega)
  · rw [← ha]
    unfold pairs
    rw [List.map_map, List.map_map]
    rfl

/-- where the last of the first k ends -/
def lastE (ls : List (List Nat)) (k : Nat) : Nat := ((endsL ls).take k).foldl (fun _ x => x) 0
theorem lastE_step (ls : List (List Nat)) (k x : Nat) (h : (endsL ls)[k]? = some x) : lastE ls (k + 1) = x := by
  unfold lastE
  rw [List.take_add_one, h, List.foldl_append]
  rfl
/-- how many are whole -/
def whole (ls : List (List Nat)) (q : Nat) : Nat := ((frs 0 ls).takeWhile fun x => decide (x.2 ≤ q)).length
theorem whole_le (ls : List (List Nat)) (q : Nat) : whole ls q ≤ ls.length := by
  unfold whole
  have h1 := (while_take (fun x => decide (x.2 ≤ q)) (frs 0 ls)).1
  have h2 := congrArg List.length h1
  rw [List.length_take, frs_len] at h2
  omega
theorem whole_in (ls : List (List Nat)) (q k : Nat) (hk : k < whole ls q) : ∃ x, (endsL ls)[k]? = some x ∧ x ≤ q := by
  have hl := whole_le ls q
  have h2 := (while_take (fun x => decide (x.2 ≤ q)) (frs 0 ls)).2.1
  obtain ⟨y, hy⟩ : ∃ y, (frs 0 ls)[k]? = some y := ⟨(frs 0 ls)[k]'(by rw [frs_len]; omega), List.getElem?_eq_getElem _⟩
  refine ⟨y.2, ?_, of_decide_eq_true (h2 k y hk hy)⟩
  unfold endsL
  rw [List.getElem?_map, hy]
  rfl
theorem whole_out (ls : List (List Nat)) (q : Nat) (hk : whole ls q < ls.length) : ∃ x, (endsL ls)[whole ls q]? = some x ∧ q < x := by
  have h3 := (while_take (fun x => decide (x.2 ≤ q)) (frs 0 ls)).2.2
  rw [frs_len] at h3
  rcases h3 with h3 | ⟨y, hy, hp⟩
  · unfold whole at hk
    omega
  · refine ⟨y.2, ?_, by have := of_decide_eq_false hp; omega⟩
    unfold endsL
    rw [List.getElem?_map]
    unfold whole
    rw [hy]
    rfl
theorem cut_read (ls : List (List Nat)) (q : Nat) (h : ∀ b ∈ ls, Body b) : readP ((cat ls).take q) = (frs 0 ls).take (whole ls q) := by
  rw [read_cut0 ls q h]
  exact (while_take (fun x => decide (x.2 ≤ q)) (frs 0 ls)).1
theorem cut_last (ls : List (List Nat)) (k : Nat) : ((frs 0 ls).take k).foldl (fun _ x => x.2) 0 = lastE ls k := by
  unfold lastE endsL
  rw [← List.map_take, List.foldl_map]
theorem cut_fst (ls : List (List Nat)) (k : Nat) : ((frs 0 ls).take k).map (·.1) = ls.take k := by
  rw [List.map_take, frs_fst]
theorem readI_cell {w : World} {E : Option Addr} {ns : List Nat} (h : Reads w E (encI ns)) (k x : Nat) (hk : ns[k]? = some x) : ∃ g off, E = some ⟨g, off, none⟩ ∧ ∀ wz, Below w.heap.size w wz → wz.cell? ⟨g, off + k, none⟩ = some (.int .i64 (x : Int)) := by
  have e : (encI ns)[k]? = some (.int .i64 (x : Int)) := by
    unfold encI
    rw [List.getElem?_map, hk]
    rfl
  obtain ⟨g, off, rfl, _⟩ := h.at_cell k _ e
  refine ⟨g, off, rfl, fun wz hz => ?_⟩
  obtain ⟨g', off', e1, hc⟩ := (h.below hz).at_cell k _ e
  cases e1
  exact hc
theorem lastE_le (ls : List (List Nat)) (k : Nat) : lastE ls k ≤ (cat ls).length := by
  have h : ∀ x ∈ (endsL ls).take k, x ≤ (cat ls).length := by
    intro x hx
    have hx := List.mem_of_mem_take hx
    unfold endsL at hx
    obtain ⟨y, hy, rfl⟩ := List.mem_map.1 hx
    have := frs_ge 0 ls y hy
    omega
  unfold lastE
  generalize (endsL ls).take k = L at *
  have : ∀ (L : List Nat) (a m : Nat), a ≤ m → (∀ x ∈ L, x ≤ m) → L.foldl (fun _ x => x) a ≤ m := by
    intro L
    induction L with
    | nil => intro a m ha _; exact ha
    | cons b t ih => intro a m _ h; exact ih b m (h b (List.mem_cons_self ..)) (fun x hx => h x (List.mem_cons_of_mem _ hx))
  exact this L 0 _ (Nat.zero_le _) h
end Go.Proofs.YtccmeiflahnleaaDoor.A

