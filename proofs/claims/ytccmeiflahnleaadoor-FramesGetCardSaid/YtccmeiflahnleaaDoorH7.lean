/-
  The law FramesGet: what its parts hand back.
-/
import Derived.Test.YtccmeiflahnleaaDoorH1
import Derived.Test.YtccmeiflahnleaaDoorH6
namespace Go.Proofs.YtccmeiflahnleaaDoor.A
set_option linter.unusedVariables false
set_option linter.unusedSimpArgs false
open Go.RowKit

def Fm.part (x : Fm) : Part := ⟨some ⟨x.g, 0, none⟩, x.body.length, x.body⟩
theorem enc22_fm (xs : List Fm) : xs.map Fm.val = enc22 (xs.map Fm.part) := by
  unfold enc22
  rw [List.map_map]
  rfl
theorem framesP_count : ∀ (f to : Nat) (bs : List Nat), (framesP f to bs).length ≤ bs.length := by
  intro f
  induction f with
  | zero => intro to bs; unfold framesP; simp
  | succ f ih =>
    intro to bs
    unfold framesP
    by_cases e : (getP bs).2.2 ≠ 0
    · rw [if_pos e]
      simp
    · rw [if_neg e]
      obtain ⟨n, hd, _, h1, _, h3, h4, _, h7⟩ := getP_ok (Decidable.not_not.1 e)
      have := ih (to + (getP bs).2.1) (bs.drop (getP bs).2.1)
      rw [List.length_drop] at this
      rw [h7] at this ⊢
      simp only [List.length_cons] at this ⊢
      omega
theorem BodiesAt.later {n0 : Nat} {xs : List Fm} {W W' : World} (h : BodiesAt n0 xs W) (k : Below W.heap.size W W') : BodiesAt n0 xs W' :=
  ⟨fun x hx => by obtain ⟨a, b, c, d, t, ht⟩ := h.1 x hx; exact ⟨a, b, c, d, t, blk_below ht k⟩, h.2⟩

/-- Read's row, its bodies in blocks of their own -/
structure LsAt (n5 : Nat) (wr : World) (L : Option Addr) (xs : List Fm) (bs : List Nat) : Prop where
  reads : Reads wr L (enc22 (xs.map Fm.part))
  bods : BodiesAt n5 xs wr
  pairs_ : pairs xs = readP bs
theorem LsAt.later {n5 : Nat} {w wr : World} {L : Option Addr} {xs : List Fm} {bs : List Nat} (h : LsAt n5 w L xs bs) (k : Below w.heap.size w wr) : LsAt n5 wr L xs bs :=
  ⟨h.reads.below k, h.bods.later k, h.pairs_⟩
theorem LsAt.count {n5 : Nat} {wr : World} {L : Option Addr} {xs : List Fm} {bs : List Nat} (h : LsAt n5 wr L xs bs) : xs.length ≤ bs.length := by
  have h1 : (pairs xs).length = xs.length := List.length_map _
  have h2 := framesP_count (bs.length + 1) 0 bs
  have h3 : readP bs = framesP (bs.length + 1) 0 bs := rfl
  rw [← h3, ← h.pairs_] at h2
  omega
theorem LsAt.bodies_ {n5 : Nat} {wr : World} {L : Option Addr} {xs : List Fm} {bs : List Nat} (h : LsAt n5 wr L xs bs) : (xs.map Fm.part).map (·.bs) = bodies bs := by
  unfold bodies
  rw [← h.pairs_]
  unfold pairs
  rw [List.map_map, List.map_map]
  rfl
theorem LsAt.last {n5 : Nat} {wr : World} {L : Option Addr} {xs : List Fm} {bs : List Nat} (h : LsAt n5 wr L xs bs) : lastTo xs = good bs := by
  unfold good lastTo
  rw [← h.pairs_]
  unfold pairs
  rw [List.foldl_map]
theorem LsAt.parts {n5 : Nat} {wr : World} {L : Option Addr} {xs : List Fm} {bs : List Nat} (h : LsAt n5 wr L xs bs) : ∀ p ∈ xs.map Fm.part, Bytes wr p.A p.bs := by
  intro p hp
  obtain ⟨x, hx, rfl⟩ := List.mem_map.1 hp
  obtain ⟨_, h2, _, h4, t, ht⟩ := h.bods.1 x hx
  exact Bytes.of_block ht h2 (by show (x.body.length : Int) ≤ _; omega)

def key (p : Pg) : Option Addr × Nat × Nat := (p.A, p.len, p.cap)
def Fm.key (x : Fm) : Option Addr × Nat × Nat := (some ⟨x.g, 0, none⟩, x.body.length, x.body.length)
theorem body_page {n0 n5 : Nat} {wr : World} {p : Pg} {x : Fm} (h : key p = x.key) (B : BodyAt n5 x wr) (hn : n0 ≤ n5) : PgSt wr n0 p False False := by
  obtain ⟨A, len, cap, m, b⟩ := p
  unfold key Fm.key at h
  simp only [Prod.mk.injEq] at h
  obtain ⟨rfl, rfl, rfl⟩ := h
  obtain ⟨h1, _, _, h4, t, ht⟩ := B
  by_cases h0 : x.body.length = 0
  · exact .inl ⟨h0, h0⟩
  · refine .inr ⟨x.g, _, rfl, ht, by omega, Nat.le_refl _, ?_, by show (x.body.length : Int) ≤ _; omega, by show 0 < x.body.length; omega, (fun h => h.elim), (fun h => h.elim)⟩
    show x.body.length ≤ _
    simp only [List.size_toArray, List.length_append, enc8_len]
    omega
theorem body_off {n5 g n c : Nat} {wr : World} {p : Pg} {x : Fm} {m b : Int} (h : key p = x.key) (B : BodyAt n5 x wr) (hg : g < n5) : Off ⟨some ⟨g, 0, none⟩, n, c, m, b⟩ p := by
  intro _ _ e
  obtain ⟨A, len, cap, m, b⟩ := p
  unfold key Fm.key at h
  simp only [Prod.mk.injEq] at h
  obtain ⟨rfl, rfl, rfl⟩ := h
  injection e with e
  injection e with e
  have := B.1
  omega
theorem body_offX {n4 n5 nx : Nat} {w4 wr : World} {X : Option Addr} {p : Pg} {x : Fm} {m b : Int} (h : key p = x.key) (B : BodyAt n5 x wr) (hX : NewRow n4 w4 X nx) (hg : w4.heap.size ≤ n5) : Off ⟨X, nx, nx, m, b⟩ p := by
  rcases hX with hX | ⟨gx, cs, rfl, h2, h3, h4⟩
  · intro h1
    exact absurd h1 (by show ¬ 0 < nx; omega)
  · exact body_off h B (by have := blk_lt h2; omega)
theorem bodies_off {n5 : Nat} {wr : World} {ps : List Pg} {xs : List Fm} (h : ps.map key = xs.map Fm.key) (B : BodiesAt n5 xs wr) : ps.Pairwise Off := by
  have h1 : (xs.map Fm.key).Pairwise (fun a b => a.1 ≠ b.1) := by
    rw [List.pairwise_map]
    exact B.2.imp (fun hne e => hne (by injection e with e; injection e))
  rw [← h, List.pairwise_map] at h1
  exact h1.imp (fun hne _ _ e => hne e)
theorem key_mem {ps : List Pg} {xs : List Fm} (h : ps.map key = xs.map Fm.key) {p : Pg} (hp : p ∈ ps) : ∃ x ∈ xs, key p = x.key := by
  have : key p ∈ xs.map Fm.key := by rw [← h]; exact List.mem_map.2 ⟨p, hp, rfl⟩
  obtain ⟨x, hx, e⟩ := List.mem_map.1 this
  exact ⟨x, hx, e.symm⟩

/-- the pages stand by themselves -/
theorem get_pages {w wr w4 : World} {base gb n4 n5 nx g la : Nat} {X : Option Addr} {m1 b1 m2 b2 : Int} {v : Value} {bs : List Nat} {ps : List Pg} {xs : List Fm} (hb : Below w.heap.size w wr)
    (K : BookAt wr base gb v ([] ++ [⟨some ⟨g, 0, none⟩, la, la + 2, m1, b1⟩] ++ [⟨X, nx, nx, m2, b2⟩] ++ ps)) (TW : Twin8 w wr g bs) (hla : la = bs.length) (hl : la ≤ 100000) (hX : NewRow n4 wr X nx) (hX4 : NewRow n4 w4 X nx) (hn4 : w.heap.size ≤ n4) (hg : g < n4) (hnx : nx ≤ 100000)
    (BO : BodiesAt n5 xs wr) (hk : ps.map key = xs.map Fm.key) (h45 : w4.heap.size ≤ n5) (h44 : n4 ≤ w4.heap.size) :
    ApSt w wr base gb v ([] ++ [⟨some ⟨g, 0, none⟩, la, la + 2, m1, b1⟩] ++ [⟨X, nx, nx, m2, b2⟩] ++ ps) 0 0 ∧ Distinct ([] ++ [⟨some ⟨g, 0, none⟩, la, la + 2, m1, b1⟩] ++ [⟨X, nx, nx, m2, b2⟩] ++ ps) := by
  refine pages_gen hb K (fun p hp => ?_) ?_
  · rcases List.mem_append.1 hp with hp | hp
    · simp only [List.nil_append, List.append_assoc, List.cons_append, List.mem_cons, List.not_mem_nil, or_false] at hp
      rcases hp with rfl | rfl
      · exact page_twin TW hla hl
      · exact hX.page hn4 hnx
    · obtain ⟨x, hx, e⟩ := key_mem hk hp
      exact body_page e (BO.1 x hx) (by omega)
  · simp only [List.nil_append, List.append_assoc, List.cons_append, List.pairwise_cons, List.mem_cons]
    refine ⟨?_, ?_, bodies_off hk BO⟩
    · rintro q (rfl | hq)
      · exact hX.off hg
      · obtain ⟨x, hx, e⟩ := key_mem hk hq
        exact body_off e (BO.1 x hx) (by omega)
    · intro q hq
      obtain ⟨x, hx, e⟩ := key_mem hk hq
      exact body_offX e (BO.1 x hx) hX4 h45

/-- Get and Read, both sides -/
structure GetLaw (A : Option Addr) (c la nx no eo gd : Nat) (bs body : List Nat) (w : World) : Prop where
  get : ∀ wz g, Below w.heap.size w wz → Bytes wz (some ⟨g, 0, none⟩) bs → Calls Tryd.prog 26 #[.slice (some ⟨g, 0, none⟩) la (la + 2)] wz fun e w' => ∃ X, e = .returned (.tuple #[.slice X nx nx, .int .i64 (no : Int), .int .i64 (eo : Int)]) ∧ Bytes w' X body ∧ NewRow wz.heap.size w' X nx ∧ Below wz.heap.size wz w'
  rget : ∀ wz, Bytes wz A bs → Calls Tryd.prog 27 #[.slice A la c] wz fun e w' => ∃ A9 c9, e = .returned (.tuple #[.slice A9 nx c9, .int .i64 (no : Int), .int .i64 (eo : Int)]) ∧ Bytes w' A9 body ∧ Below wz.heap.size wz w'
  read : ∀ wz g, Below w.heap.size w wz → Bytes wz (some ⟨g, 0, none⟩) bs → Calls Tryd.prog 28 #[.slice (some ⟨g, 0, none⟩) la (la + 2)] wz fun e w' => ∃ L xs m, e = .returned (.tuple #[.slice L m m, .int .i64 (gd : Int)]) ∧ m = xs.length ∧ LsAt wz.heap.size w' L xs bs ∧ Below wz.heap.size wz w'
  rread : ∀ wz, Bytes wz A bs → Calls Tryd.prog 29 #[.slice A la c] wz fun e w' => ∃ L k c2 ps, e = .returned (.tuple #[.slice L k c2, .int .i64 (gd : Int)]) ∧ k = ps.length ∧ Reads w' L (enc22 ps) ∧ (∀ p ∈ ps, Bytes w' p.A p.bs) ∧ bodies bs = ps.map (·.bs) ∧ Below wz.heap.size wz w'

theorem get_law (A : Option Addr) (c : Nat) (bs : List Nat) (w : World) (T : TabAt w) (hc : bs.length ≤ c) (hA : c = 0 ∨ ∃ g off, A = some ⟨g, off, none⟩) : GetLaw A c bs.length (getP bs).1.length (getP bs).2.1 (getP bs).2.2 (good bs) bs (getP bs).1 w := by
  refine ⟨fun wz g hb R => ?_, fun wz R => ?_, fun wz g hb R => ?_, fun wz R => xref_read A c bs wz R hc hA⟩
  · by_cases h : (getP bs).2.2 = 0
    · refine (xget_ok _ _ bs wz R (T.below hb) (by omega) h).mono fun e w' ⟨g', cap, he, o, hq⟩ => ⟨_, by rw [he, h]; rfl, ⟨own_reads o, ?_, ?_⟩, ?_, hq⟩
      · intro b hb
        obtain ⟨n, hd, _, _, _, _, _, _, h7⟩ := getP_ok h
        rw [h7] at hb
        exact R.small b (List.mem_of_mem_drop (List.mem_of_mem_take hb))
      · obtain ⟨n, hd, _, _, _, h3, _, _, h7⟩ := getP_ok h
        rw [h7]
        show (((bs.drop hd).take n).length : Int) ≤ _
        rw [List.length_take]
        omega
      · obtain ⟨t, ht⟩ := own_block o rfl
        refine .inr ⟨g', _, rfl, ht, own_ge o, ?_⟩
        simp only [List.size_toArray, List.length_append, enc8_len]
        omega
    · obtain ⟨e0, he0⟩ := getP_bad h
      refine (xget_bad _ _ bs wz R (T.below hb) (by omega) h).mono fun e w' ⟨he, hq⟩ => ⟨none, ?_, ?_, .inl ?_, hq⟩
      · rw [he, he0]
        rfl
      · rw [he0]
        exact nil_bytes w'
      · rw [he0]
        rfl
  · refine (xref_get A c bs wz R hc).mono fun e w' ⟨A9, k, c9, he, hk, o, hs, hq⟩ => ?_
    subst hk
    refine ⟨A9, c9, he, ⟨own_reads o, hs, ?_⟩, hq⟩
    by_cases h : (getP bs).2.2 = 0
    · obtain ⟨n, hd, _, _, _, h3, _, _, h7⟩ := getP_ok h
      rw [h7]
      show (((bs.drop hd).take n).length : Int) ≤ _
      rw [List.length_take]
      omega
    · obtain ⟨e0, he0⟩ := getP_bad h
      rw [he0]
      show ((0 : Nat) : Int) ≤ _
      decide
  · refine (xread (some ⟨g, 0, none⟩) (bs.length + 2) bs wz R (T.below hb) (by omega) (.inr ⟨g, 0, rfl⟩)).mono fun e w' ⟨L, xs, he, hr, ⟨ha, hbo⟩, hq⟩ => ?_
    have LS : LsAt wz.heap.size w' L xs bs := ⟨by rw [← enc22_fm]; exact hr, hbo, ha⟩
    exact ⟨L, xs, xs.length, by rw [he, LS.last], rfl, LS, hq⟩
end Go.Proofs.YtccmeiflahnleaaDoor.A

