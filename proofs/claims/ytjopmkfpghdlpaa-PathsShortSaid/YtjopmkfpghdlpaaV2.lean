/-
  A book of pages (countinghouselaw01.Book): pages are put in; each is written, and what stands behind each; in the end each stands: for lists of Party.
-/
import Derived.Test.YtjopmkfpghdlpaaV1
namespace Go.Proofs.Ytjopmkfpghdlpaa.A
set_option linter.unusedVariables false
set_option linter.unusedSimpArgs false
open Go.RowKit

structure Pg where
  A : Option Addr
  len : Nat
  cap : Nat
  m : Int
  b : Int
def Pg.val (p : Pg) : Value := .iface 92 (.agg (pageV p.A p.len p.cap p.m p.b))
theorem infoPg : (Try.prog.info? 94).map (fun i => (i.zero, i.size, i.bytes)) = some (some .nilIface, 1, 16) := by kernel_rfl

/-- a book, with these pages -/
structure BookAt (w : World) (base gb : Nat) (v : Value) (ps : List Pg) : Prop where
  blk : w.heap[gb]? = some (.cells #[v] 48 (0, 0))
  own : w.ownsRow base 94 1 v ps.length (ps.map Pg.val)
  ge : base ≤ gb
theorem BookAt.later {w w1 : World} {base gb : Nat} {v : Value} {ps : List Pg} (h : BookAt w base gb v ps) (k : Below w.heap.size w w1) : BookAt w1 base gb v ps :=
  ⟨blk_below h.blk k, own_below h.own k, h.ge⟩
theorem BookAt.start {w : World} {base gb : Nat} (h : w.heap[gb]? = some (.cells #[.slice none 0 0] 48 (0, 0))) (hb : base ≤ gb) : BookAt w base gb (.slice none 0 0) [] := ⟨h, own_nil _ _ _ _, hb⟩
theorem bown_form {w : World} {base n size : Nat} {e : TypeId} {v : Value} {xs : List Value} (h : w.ownsRow base e size v n xs) : ∃ A c, v = .slice A n c := by
  rcases h.2 with ⟨rfl, rfl⟩ | ⟨g, cap, cur, rfl, _⟩
  · exact ⟨none, 0, rfl⟩
  · exact ⟨_, cap, rfl⟩

theorem bown_ne {w : World} {base n size g : Nat} {e t : TypeId} {v : Value} {xs : List Value} {cs : Array Value} (h : w.ownsRow base e size v n xs) (hg : w.heap[g]? = some (.cells cs t (0, 0))) (hne : e ≠ t) : some g ≠ v.ownBlock := by
  rcases h.2 with ⟨rfl, _⟩ | ⟨g', cap, cur, rfl, _, hh, _⟩
  · simp [Value.ownBlock]
  · intro he
    have : g' = g := by simpa [Value.ownBlock] using he.symm
    subst this
    rw [hh] at hg
    injection hg with hg
    injection hg with _ ht
    exact hne ht
theorem bbelow_setb {w W : World} {base g j : Nat} {v : Value} (h : Below base w W) (hg : base ≤ g) : Below base w (W.setCell ⟨g, j, none⟩ v) := h.setCell hg _
theorem bown_set {w : World} {base n size g j : Nat} {e : TypeId} {v u : Value} {xs : List Value} (h : w.ownsRow base e size v n xs) (hne : some g ≠ v.ownBlock) : (w.setCell ⟨g, j, none⟩ u).ownsRow base e size v n xs := by
  refine ⟨h.1, ?_⟩
  rcases h.2 with h0 | ⟨g', cap, cur, rfl, h1, h2, h3⟩
  · exact .inl h0
  · refine .inr ⟨g', cap, cur, rfl, h1, blk_set_other h2 j u (fun e => hne (by rw [e]; rfl)), h3⟩

set_option maxHeartbeats 1000000 in
set_option maxRecDepth 100000 in
theorem book_number (base gb : Nat) (v : Value) (ps : List Pg) (w : World) (K : BookAt w base gb v ps) (hl : ps.length < 1000000000) : Calls Try.prog 50 #[.pointer (some ⟨gb, 0, none⟩)] w fun e w' => e = .returned (.int .i64 ((ps.length : Int) + 1)) ∧ Below w.heap.size w w' := by
  have BB := AsideA.mk (Below.refl w.heap.size w)
  obtain ⟨A, c, rfl⟩ := bown_form K.own
  have c0 : w.cell? ⟨gb, 0, none⟩ = some (.slice A ps.length c) := (blk_cell K.blk 0).trans rfl
  clear K
  generalize ps.length = n at *
  go_enter Try.func50, Try.ntmps50
  go_wp2
  go_ret
  exact ⟨rfl, BB.out⟩

set_option maxHeartbeats 2000000 in
set_option maxRecDepth 100000 in
theorem book_put (A : Option Addr) (len cap base gb : Nat) (v : Value) (ps : List Pg) (w : World) (K : BookAt w base gb v ps) (hl : ps.length < 1000000000) : Calls Try.prog 21 #[.pointer (some ⟨gb, 0, none⟩), .slice A len cap] w fun e w' => e = .returned (.tuple #[]) ∧ ∃ m b v', BookAt w' base gb v' (ps ++ [⟨A, len, cap, m, b⟩]) ∧ Below base w w' := by
  have KN := AsideA.mk (book_number base gb v ps w K hl)
  have KK := AsideA.mk K
  have WB : AsideA (base ≤ w.heap.size) := ⟨by have h1 := blk_lt K.blk; have h2 := K.ge; omega⟩
  clear K
  obtain ⟨A1, c1, rfl⟩ := bown_form KK.out.own
  obtain ⟨n, hn⟩ : ∃ n, n = ps.length := ⟨_, rfl⟩
  have HN := AsideA.mk hn
  rw [← hn] at KN hl KK
  clear hn
  go_enter Try.func21, Try.ntmps21
  go_wp2_with (first
    | (go_at_call 50; refine KN.out.mono ?_; rintro e w1 ⟨rfl, hq⟩; have K1 := AsideA.mk (KK.out.later hq); have B1 := AsideA.mk hq; clear hq KK; have O1 : AsideA (w1.ownsRow base 94 1 (.slice A1 n c1) n (ps.map Pg.val)) := ⟨by have h := K1.out.own; rw [← HN.out] at h; exact h⟩; have c0 := (blk_cell K1.out.blk 0).trans (show _ = some (Value.slice A1 n c1) from rfl))
    | ((with_reducible refine gate (N := 20) rfl ?_); go_loud ((refine append_own _ 46 _ _ rfl rfl base 94 _ 1 16 Try.underlying46 infoPg rfl (by decide) (.slice A1 n c1) n (ps.map Pg.val) rfl (own_alloc O1.out _) (some ⟨w1.heap.size, 0, none⟩) 1 1 [Pg.val ⟨A, len, cap, ((n : Int) + 1) % 256, bits .xor .u8 (((n : Int) + 1) % 256) 128⟩] rfl rfl (reads_built w1 94 [Pg.val ⟨A, len, cap, ((n : Int) + 1) % 256, bits .xor .u8 (((n : Int) + 1) % 256) 128⟩]) (by simp [Pg.val, Value.oneCell']) (by simp only [maxLen]; omega) (by omega) ?hb ?_); (case hb => have h1 := blk_lt K1.out.blk; have h2 := K1.out.ge; simp; omega); intro v2 w2 o2 g2 p2; obtain ⟨A2, c2, e2⟩ := bown_form o2; subst e2; have Z := AsideA.mk (And.intro o2 g2); clear o2 g2 p2; have KC := AsideA.mk ((Z.out.2.block gb (by have := blk_lt K1.out.blk; simp; omega) (bown_ne O1.out K1.out.blk (by decide))).trans (blk_below K1.out.blk ((Below.refl w1.heap.size w1).alloc (Nat.le_refl _) _))); have c3 := (blk_cell KC.out 0).trans (show _ = some (Value.slice A1 n c1) from rfl); have f3 := blk_frozen KC.out 0)))
  go_end0
  have hsz : base ≤ w1.heap.size := by have h1 := blk_lt K1.out.blk; have h2 := K1.out.ge; omega
  have hsw : base ≤ w.heap.size := WB.out
  have B2 := below_grown ((B1.out.mono hsw).alloc hsz _) (by simp; omega) (own_alloc O1.out _) Z.out.2
  have o3 := Z.out.1
  refine ⟨rfl, ((n : Int) + 1) % 256, bits .xor .u8 (((n : Int) + 1) % 256) 128, .slice A2 (n + 1) c2, ⟨blk_set KC.out 0 _, ?_, K1.out.ge⟩, bbelow_setb B2 K1.out.ge⟩
  rw [List.length_append, List.map_append, ← HN.out]
  exact bown_set o3 (bown_ne o3 KC.out (by decide))

/-- how a page stands: it is empty, or a block of its own; is it written, is what stands behind it written? -/
def PgSt (w : World) (n0 : Nat) (p : Pg) (b1 b2 : Prop) : Prop :=
  (p.len = 0 ∧ p.cap = 0) ∨ ∃ g cs, p.A = some ⟨g, 0, none⟩ ∧ w.heap[g]? = some (.cells cs 30 (0, 0)) ∧ n0 ≤ g ∧ p.len ≤ p.cap ∧ p.cap ≤ cs.size ∧ (p.cap : Int) ≤ 9223372036854775807 ∧ 0 < p.cap ∧
    (b1 → ∀ i, i < p.len → cs[i]? = some (.int .u8 p.m)) ∧ (b2 → ∀ i, p.len ≤ i → i < p.cap → cs[i]? = some (.int .u8 p.b))
def Distinct (ps : List Pg) : Prop := ∀ (i j : Nat) p q, ps[i]? = some p → ps[j]? = some q → i ≠ j → 0 < p.cap → 0 < q.cap → p.A ≠ q.A
theorem PgSt.later {w w1 : World} {n0 : Nat} {p : Pg} {b1 b2 : Prop} (h : PgSt w n0 p b1 b2) (k : Below w.heap.size w w1) : PgSt w1 n0 p b1 b2 := by
  rcases h with h | ⟨g, cs, h1, h2, h3⟩
  · exact .inl h
  · exact .inr ⟨g, cs, h1, blk_below h2 k, h3⟩
theorem PgSt.imp {w : World} {n0 : Nat} {p : Pg} {b1 b2 c1 c2 : Prop} (h : PgSt w n0 p b1 b2) (h1 : c1 → b1) (h2 : c2 → b2) : PgSt w n0 p c1 c2 := by
  rcases h with h | ⟨g, cs, e1, e2, e3, e4, e5, e6, e7, e8, e9⟩
  · exact .inl h
  · exact .inr ⟨g, cs, e1, e2, e3, e4, e5, e6, e7, fun h => e8 (h1 h), fun h => e9 (h2 h)⟩
/-- how a book stands, whose first k1 pages are written, and what stands behind the first k2 -/
structure ApSt (w0 w : World) (base gb : Nat) (v : Value) (ps : List Pg) (k1 k2 : Nat) : Prop where
  below : Below w0.heap.size w0 w
  blk : w.heap[gb]? = some (.cells #[v] 48 (0, 0))
  own : w.ownsRow base 94 1 v ps.length (ps.map Pg.val)
  st : ∀ j p, ps[j]? = some p → PgSt w w0.heap.size p (j < k1) (j < k2)
theorem ApSt.later {w0 w w1 : World} {base gb k1 k2 : Nat} {v : Value} {ps : List Pg} (h : ApSt w0 w base gb v ps k1 k2) (k : Below w.heap.size w w1) : ApSt w0 w1 base gb v ps k1 k2 :=
  ⟨below_call h.below k, blk_below h.blk k, own_below h.own k, fun j p hj => (h.st j p hj).later k⟩
theorem ne_blocks {w : World} {g g' : Nat} {t t' : TypeId} {cs cs' : Array Value} (h : w.heap[g]? = some (.cells cs t (0, 0))) (h' : w.heap[g']? = some (.cells cs' t' (0, 0))) (hne : t ≠ t') : g ≠ g' := by
  rintro rfl
  rw [h] at h'
  injection h' with h'
  injection h' with _ ht
  exact hne ht
/-- block g was turned; all else stands -/
theorem ApSt.turn {w0 w w1 : World} {base gb k1 k2 j1 j2 k g : Nat} {v : Value} {ps : List Pg} {p : Pg} {cs : Array Value} (h : ApSt w0 w base gb v ps k1 k2) (D : Distinct ps) (hp : ps[k]? = some p) (hc : 0 < p.cap) (hA : p.A = some ⟨g, 0, none⟩) (hg : w.heap[g]? = some (.cells cs 30 (0, 0))) (h0 : w0.heap.size ≤ g)
    (G : w.grownBy w1 (some g)) (hj1 : ∀ j, j ≠ k → j < j1 → j < k1) (hj2 : ∀ j, j ≠ k → j < j2 → j < k2) (hk : PgSt w1 w0.heap.size p (k < j1) (k < j2)) : ApSt w0 w1 base gb v ps j1 j2 := by
  have hgb : gb ≠ g := ne_blocks h.blk hg (by decide)
  refine ⟨h.below.grown G h.below.size (fun k hk => by cases hk; exact h0), (G.block gb (blk_lt h.blk) (fun e => hgb (Option.some.inj e))).trans h.blk, h.own.kept G (.inr (Ne.symm (bown_ne h.own hg (by decide)))), fun j q hq => ?_⟩
  by_cases e : j = k
  · subst e
    rw [hp] at hq
    cases hq
    exact hk
  · rcases h.st j q hq with h1 | ⟨g', cs2, e1, e2, e3, e4, e5, e6, e7, e8, e9⟩
    · exact .inl h1
    · have hne : g' ≠ g := fun e2 => D j k q p hq hp e e7 hc (by rw [e1, hA, e2])
      exact .inr ⟨g', cs2, e1, (G.block g' (blk_lt e2) (fun e => hne (Option.some.inj e))).trans e2, e3, e4, e5, e6, e7, fun h => e8 (hj1 j e h), fun h => e9 (hj2 j e h)⟩

theorem ap_write {w0 w : World} {base gb k : Nat} {v : Value} {ps : List Pg} {p : Pg} (h : ApSt w0 w base gb v ps k 0) (D : Distinct ps) (hp : ps[k]? = some p) : Calls Try.prog 88 #[.agg (pageV p.A p.len p.cap p.m p.b)] w fun e w' => e = .returned (.tuple #[]) ∧ ApSt w0 w' base gb v ps (k + 1) 0 := by
  rcases h.st k p hp with ⟨h1, h2⟩ | ⟨g, cs, e1, e2, e3, e4, e5, e6, e7, e8, e9⟩
  · rw [h1]
    refine (write_none p.A p.cap p.m p.b w).mono fun e w' ⟨he, hb⟩ => ⟨he, ?_⟩
    have h' := h.later hb
    refine ⟨h'.below, h'.blk, h'.own, fun j q hq => ?_⟩
    by_cases e : j = k
    · subst e
      rw [hp] at hq
      cases hq
      exact .inl ⟨h1, h2⟩
    · exact (h'.st j q hq).imp (fun h => by omega) id
  · rw [e1]
    refine (write_some g p.len p.cap p.m p.b cs w e2 (by omega) (by omega)).mono fun e w' ⟨he, cs', hw, hb, hg⟩ => ⟨he, ?_⟩
    refine h.turn D hp e7 e1 e2 e3 hg (fun j hj h => by omega) (fun j hj h => h) (.inr ⟨g, cs', e1, hb, e3, e4, by rw [hw.1]; exact e5, e6, e7, fun _ i hi => ?_, fun h => by omega⟩)
    rw [hw.2 i, if_pos (by omega)]
theorem ap_behind {w0 w : World} {base gb k : Nat} {v : Value} {ps : List Pg} {p : Pg} (h : ApSt w0 w base gb v ps ps.length k) (D : Distinct ps) (hp : ps[k]? = some p) : Calls Try.prog 89 #[.agg (pageV p.A p.len p.cap p.m p.b)] w fun e w' => e = .returned (.tuple #[]) ∧ ApSt w0 w' base gb v ps ps.length (k + 1) := by
  have hk := (List.getElem?_eq_some_iff.1 hp).1
  rcases h.st k p hp with ⟨h1, h2⟩ | ⟨g, cs, e1, e2, e3, e4, e5, e6, e7, e8, e9⟩
  · rw [h1, h2]
    refine (behind_none p.A p.m p.b w).mono fun e w' ⟨he, hb⟩ => ⟨he, ?_⟩
    have h' := h.later hb
    refine ⟨h'.below, h'.blk, h'.own, fun j q hq => ?_⟩
    by_cases e : j = k
    · subst e
      rw [hp] at hq
      cases hq
      exact .inl ⟨h1, h2⟩
    · exact (h'.st j q hq).imp id (fun h => by omega)
  · rw [e1]
    refine (behind_some g p.len p.cap p.m p.b cs w e2 e4 e5 (by omega)).mono fun e w' ⟨he, cs', hw, hb, hg⟩ => ⟨he, ?_⟩
    refine h.turn D hp e7 e1 e2 e3 hg (fun j hj h => h) (fun j hj h => by omega) (.inr ⟨g, cs', e1, hb, e3, e4, by rw [hw.1]; exact e5, e6, e7, fun _ i hi => ?_, fun _ i hi1 hi2 => ?_⟩)
    · rw [hw.2 i, if_neg (by omega)]
      exact e8 hk i hi
    · rw [hw.2 i, if_pos (by omega)]
theorem ap_stands {w0 w : World} {base gb k : Nat} {v : Value} {ps : List Pg} {p : Pg} (h : ApSt w0 w base gb v ps ps.length ps.length) (hp : ps[k]? = some p) : Calls Try.prog 87 #[.agg (pageV p.A p.len p.cap p.m p.b)] w fun e w' => e = .returned (.bool true) ∧ ApSt w0 w' base gb v ps ps.length ps.length := by
  have hk := (List.getElem?_eq_some_iff.1 hp).1
  rcases h.st k p hp with ⟨h1, h2⟩ | ⟨g, cs, e1, e2, e3, e4, e5, e6, e7, e8, e9⟩
  · rw [h1, h2]
    exact (stands_none p.A p.m p.b w).mono fun e w' ⟨he, hb⟩ => ⟨he, h.later hb⟩
  · rw [e1]
    exact (stands_some g p.len p.cap p.m p.b cs w e2 e4 (by omega) (e8 hk) (e9 hk)).mono fun e w' ⟨he, hb⟩ => ⟨he, h.later hb⟩

section
variable {P : Program} {ops : Array Oper} {rest : List Oper} {o : Oper} {a : Act} {Q : Exit → Act → World → Prop}
/-- a method that is called through an interface value -/
theorem invoke_at {W : World} {name : String} {ats : Array TypeId} (x : Operand) (ho : o.op = .call { callee := .invoke x name, args := #[], argTypes := ats }) (hgd : o.guard = none) (t : TypeId) (v : Value) (f : FuncId) (hx : a.eval x = .iface t v)
    (hm : ∀ w, (callMethod (.iface t v) name #[]).run P w = .ok (.enter f #[v]) w) (hcall : Calls P f #[v] W fun e w' => ∃ r, e = .returned r ∧ wpList P ops Q rest (a.put o.dst r) w') : wpList P ops Q (o :: rest) a W := by
  refine wpList_plain hgd fun K hK => ?_
  unfold Oper.wp
  have hrun : (execOp a.eval o).run P W = .ok (.enter f #[v]) W := by
    unfold execOp
    simp only [ho, resolve, invoke, hx, Sem.run_bind, Sem.run_pure, Result.andThen_ok]
    simpa using hm W
  rw [hrun]
  simp only [Oper.upon]
  refine Calls.mono hcall ?_
  rintro e w' ⟨r, rfl, h⟩
  exact hK _ _ h
end
theorem inv_write (v : Value) (w : World) : (callMethod (.iface 92 v) "countinghouse/countinghouselaw01.write" #[]).run Try.prog w = .ok (.enter 88 #[v]) w := by kernel_rfl
theorem inv_behind (v : Value) (w : World) : (callMethod (.iface 92 v) "countinghouse/countinghouselaw01.writeBehind" #[]).run Try.prog w = .ok (.enter 89 #[v]) w := by kernel_rfl
theorem inv_stands (v : Value) (w : World) : (callMethod (.iface 92 v) "countinghouse/countinghouselaw01.stands" #[]).run Try.prog w = .ok (.enter 87 #[v]) w := by kernel_rfl
theorem page_at {w0 w : World} {base gb k1 k2 : Nat} {A : Option Addr} {c n : Nat} {ps : List Pg} (h : ApSt w0 w base gb (.slice A n c) ps k1 k2) (hn : n = ps.length) (k : Nat) (hk : k < ps.length) : ∃ gp p, A = some ⟨gp, 0, none⟩ ∧ ps[k]? = some p ∧ w.cell? ⟨gp, k, none⟩ = some p.val := by
  rcases h.own.2 with ⟨_, h0⟩ | ⟨g, cap, cur, e1, _, hg, _, _, _, ht⟩
  · omega
  · cases e1
    refine ⟨g, ps[k], rfl, List.getElem?_eq_getElem hk, ?_⟩
    have h2 : (cur.toList.take (ps.length * 1))[k]? = some (ps[k]).val := by
      rw [ht, List.getElem?_map, List.getElem?_eq_getElem hk]
      rfl
    rw [List.getElem?_take, if_pos (by omega)] at h2
    rw [blk_cell hg]
    simpa using h2

set_option maxHeartbeats 4000000 in
set_option maxRecDepth 100000 in
theorem book_apart (w0 w : World) (base gb : Nat) (v : Value) (ps : List Pg) (H : ApSt w0 w base gb v ps 0 0) (D : Distinct ps) (hl : ps.length < 1000000000) : Calls Try.prog 22 #[.pointer (some ⟨gb, 0, none⟩)] w fun e w' => e = .returned (.bool true) ∧ Below w0.heap.size w0 w' := by
  obtain ⟨A, c, rfl⟩ := bown_form H.own
  obtain ⟨n, hn⟩ : ∃ n, n = ps.length := ⟨_, rfl⟩
  rw [← hn] at hl H
  have HN := AsideA.mk hn
  have HD := AsideA.mk D
  have HH := AsideA.mk H
  have c0 : w.cell? ⟨gb, 0, none⟩ = some (.slice A n c) := (blk_cell H.blk 0).trans rfl
  clear H D hn
  by_cases hbig : 120 < n
  · go_enter Try.func22, Try.ntmps22
    go_wp2
    go_ret
    exact ⟨rfl, HH.out.below⟩
  · go_enter Try.func22, Try.ntmps22
    go_wp2
    clear c0
    go_loopw [3] (fun i wr => ∃ k : Nat, k ≤ n ∧ i = .int .i64 k ∧ AsideA (ApSt w0 wr base gb (.slice A n c) ps k 0)) (fun i _ => n - (intOf i).toNat)
    case atStart => exact ⟨0, by omega, rfl, HH⟩
    case round =>
      obtain ⟨k, hk, rfl, I⟩ := hrel
      have c0 := (blk_cell I.out.blk 0).trans (show _ = some (Value.slice A n c) from rfl)
      by_cases hlt : k < n
      · obtain ⟨gp, p, rfl, hp, hcell⟩ := page_at I.out HN.out k (by have := HN.out; omega)
        have W := AsideA.mk (ap_write I.out HD.out hp)
        unfold Pg.val pageV at hcell
        unfold pageV at W
        clear hp
        go_wp2_with ((with_reducible refine gate (N := 28) rfl ?_); go_loud (refine invoke_at _ rfl rfl 92 _ 88 rfl (inv_write _) (W.out.mono ?_); rintro e w1 ⟨rfl, hq⟩; refine ⟨_, rfl, ?_⟩; have I2 := AsideA.mk hq; clear hq))
        exact ⟨⟨k + 1, by omega, by go_num, I2⟩, by simp [intOf]; omega⟩
      · have e : k = n := by omega
        subst e
        go_wp2
        clear c0
        have I1 : AsideA (ApSt w0 wr base gb (.slice A k c) ps ps.length 0) := ⟨by rw [← HN.out]; exact I.out⟩
        clear I
        go_loopw [4] (fun i wr => ∃ j : Nat, j ≤ k ∧ i = .int .i64 j ∧ AsideA (ApSt w0 wr base gb (.slice A k c) ps ps.length j)) (fun i _ => k - (intOf i).toNat)
        case atStart => exact ⟨0, by omega, rfl, I1⟩
        case round =>
          clear I1
          obtain ⟨j, hj, rfl, I⟩ := hrel
          have c0 := (blk_cell I.out.blk 0).trans (show _ = some (Value.slice A k c) from rfl)
          by_cases hlt2 : j < k
          · obtain ⟨gp, p, rfl, hp, hcell⟩ := page_at I.out HN.out j (by have := HN.out; omega)
            have W := AsideA.mk (ap_behind I.out HD.out hp)
            unfold Pg.val pageV at hcell
            unfold pageV at W
            clear hp
            go_wp2_with ((with_reducible refine gate (N := 45) rfl ?_); go_loud (refine invoke_at _ rfl rfl 92 _ 89 rfl (inv_behind _) (W.out.mono ?_); rintro e w1 ⟨rfl, hq⟩; refine ⟨_, rfl, ?_⟩; have I2 := AsideA.mk hq; clear hq))
            exact ⟨⟨j + 1, by omega, by go_num, I2⟩, by simp [intOf]; omega⟩
          · have e : j = k := by omega
            subst e
            go_wp2
            clear c0
            have I1 : AsideA (ApSt w0 wr base gb (.slice A j c) ps ps.length ps.length) := ⟨by have h := I.out; rw [HN.out] at h ⊢; exact h⟩
            clear I
            go_loopw [5] (fun i wr => ∃ q : Nat, q ≤ j ∧ i = .int .i64 q ∧ AsideA (ApSt w0 wr base gb (.slice A j c) ps ps.length ps.length)) (fun i _ => j - (intOf i).toNat)
            case atStart => exact ⟨0, by omega, rfl, I1⟩
            case round =>
              clear I1
              obtain ⟨q, hq, rfl, I⟩ := hrel
              have c0 := (blk_cell I.out.blk 0).trans (show _ = some (Value.slice A j c) from rfl)
              by_cases hlt3 : q < j
              · obtain ⟨gp, p, rfl, hp, hcell⟩ := page_at I.out HN.out q (by have := HN.out; omega)
                have W := AsideA.mk (ap_stands I.out hp)
                unfold Pg.val pageV at hcell
                unfold pageV at W
                clear hp
                go_wp2_with ((with_reducible refine gate (N := 62) rfl ?_); go_loud (refine invoke_at _ rfl rfl 92 _ 87 rfl (inv_stands _) (W.out.mono ?_); rintro e w1 ⟨rfl, hq⟩; refine ⟨_, rfl, ?_⟩; have I2 := AsideA.mk hq; clear hq))
                exact ⟨⟨q + 1, by omega, by go_num, I2⟩, by simp [intOf]; omega⟩
              · go_wp2
                go_ret
                exact ⟨rfl, I.out.below⟩
end Go.Proofs.Ytjopmkfpghdlpaa.A

