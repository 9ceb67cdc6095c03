/-
  The law for a region that draws its order, once more: operations under a guard, too (what is not wanted leaves 'undef'); and the frame of the end may hang on one number that an
  operation of the region itself picks (the block of an alloc).
-/
import Derived.Test.YtjopmkfpghdlpaaReg3
namespace Go.Proofs.Ytjopmkfpghdlpaa.A
set_option linter.unusedVariables false
set_option linter.unusedSimpArgs false

def chk4 (ops : Array Oper) (n : Nat) (ds : List Nat) : Bool :=
  Region.noSelect ops &&
  ((List.range ops.size).all fun i => match ops[i]? with
    | none => false
    | some o => (match o.guard with | none => true | some (j, _) => (List.range ops.size).all fun k => (dstAt ops j).isNone || dstAt ops k != dstAt ops j || (needs o).contains k) && (match o.dst with | some d => decide (d < n) | none => true) &&
      ((reads o).all fun t => (List.range ops.size).all fun j => dstAt ops j != some t || (needs o).contains j) &&
      ((List.range ops.size).all fun j => j == i || o.dst.isNone || dstAt ops j != o.dst) &&
      ((needs o).all fun j => decide (j < i))) &&
  (ds.all fun d => (List.range ops.size).any fun j => dstAt ops j == some d) &&
  decide (0 < ops.size)

/-- which numbers may yet be picked -/
def mt {α : Type} (c : Option α) (x : α) : Prop := c = none ∨ c = some x
def agr (o : Oper) (b f : Act) : Prop := ∀ d, o.dst = some d → b.tmps[d]? = f.tmps[d]?

section
variable {α : Type} {P : Program} {ops : Array Oper} {Q : Exit → Act → World → Prop}

def opC (P : Program) (ops : Array Oper) (F : α → Act) (c : Option α) (x : α) (o : Oper) (w : World) (I : Option α → World → Prop) : Prop :=
  if Region.wanted o (yielded ops (F x).tmps) then o.wp P (F x) w (fun b w' => b.defers = (F x).defers ∧ ∃ c', (∀ y, mt c' y → mt c y) ∧ (∀ y, mt c' y → agr o b (F y)) ∧ I c' w') (fun _ _ _ => False)
  else (∀ y, mt c y → agr o ((F x).put o.dst undef) (F y)) ∧ I c w

def allC (P : Program) (ops : Array Oper) (F : α → Act) (n : Nat) (I : Option α → Array Bool → World → Prop) : Nat → List Oper → Prop
  | _, [] => True
  | i, o :: r => (∀ c l w x, l.size = n → l.getD i false = false → (∀ j ∈ needs o, l.getD j false = true) → I c l w → mt c x → opC P ops F c x o w (fun c' => I c' (l.setIfInBounds i true))) ∧ allC P ops F n I (i + 1) r

theorem allC_at {F : α → Act} {n : Nat} {I : Option α → Array Bool → World → Prop} : ∀ {q : List Oper} {k : Nat}, allC P ops F n I k q → ∀ (i : Nat) (o : Oper), q[i]? = some o → ∀ c l w x, l.size = n → l.getD (k + i) false = false → (∀ j ∈ needs o, l.getD j false = true) → I c l w → mt c x → opC P ops F c x o w (fun c' => I c' (l.setIfInBounds (k + i) true))
  | [], _, _, i, o, h => by simp at h
  | p :: r, k, h, i, o, ho => by
    cases i with
    | zero =>
      simp at ho
      subst ho
      exact h.1
    | succ i =>
      have := allC_at h.2 i o (by simpa using ho)
      rwa [show k + 1 + i = k + (i + 1) by omega] at this

theorem mt_some [Inhabited α] (c : Option α) : ∃ x, mt c x := by
  cases c with
  | none => exact ⟨default, .inl rfl⟩
  | some x => exact ⟨x, .inr rfl⟩

theorem wpAny_picked [Inhabited α] {F : α → Act} {I : Option α → Array Bool → World → Prop} {n : Nat} {ds : List Nat} (hn : ∀ x, (F x).tmps.size = n) (hc : chk4 ops n ds = true) (hall : allC P ops F ops.size I 0 ops.toList)
    (hend : ∀ c l w x, (∀ i, i < ops.size → l.getD i false = true) → I c l w → mt c x → Q .normal (F x) w) :
    ∀ (fuel : Nat) (c : Option α) (l : Array Bool) (a : Act) (w : World), l.size = ops.size → l.toList.count false ≤ fuel → (∀ x, mt c x → Stands ops (F x) l a) →
      I c l w →
      wpAny P .any ops Q fuel l a w := by
  simp only [chk4, Bool.and_eq_true, List.all_eq_true, List.mem_range] at hc
  obtain ⟨⟨⟨hsel, hops⟩, _⟩, hlast⟩ := hc
  have hfin : ∀ (c : Option α) (l : Array Bool) (a : Act) (w : World), l.size = ops.size → (∀ x, mt c x → Stands ops (F x) l a) → (∀ i, i < ops.size → l.getD i false = true) → I c l w → Q .normal a w := by
    intro c l a w hs hst hd hJ
    obtain ⟨x, hx⟩ := mt_some c
    have ha : a = F x := by
      obtain ⟨h1, h2, h3⟩ := hst x hx
      generalize F x = f at *
      cases a; cases f
      simp only at h1 h2 h3
      congr 1
      · exact Array.ext_getElem? fun s => h3 s fun i hi => by
          by_cases hlt : i < ops.size
          · exact hd i hlt
          · simp [dstAt, Array.getElem?_eq_none (Nat.le_of_not_lt hlt)] at hi
    exact ha ▸ hend c l w x hd hJ hx
  have hrd : ∀ l', Region.ready .any ops l' = [] → l'.size = ops.size → ∀ i, i < ops.size → l'.getD i false = true := fun l' h1 h2 => all_listed (fun i o ho j hj => by
    have := hops i (Array.getElem?_eq_some_iff.1 ho).1
    rw [ho] at this
    simp only [Bool.and_eq_true, List.all_eq_true] at this
    simpa using this.2 j hj) h1 h2
  have hpos : 0 < ops.size := of_decide_eq_true hlast
  intro fuel
  induction fuel with
  | zero =>
    intro c l a w hs hcount hst hI
    have hd : ∀ i, i < ops.size → l.getD i false = true := by
      intro i hi
      have : l[i]'(by omega) = true := by
        cases hb : l[i]'(by omega) with
        | true => rfl
        | false =>
          have : false ∈ l.toList := by rw [← hb]; simp
          have := List.count_pos_iff.2 this
          omega
      simp [hs, hi, this]
    refine ⟨?_, hfin c l a w hs hst hd hI⟩
    unfold Region.ready
    rw [List.filter_eq_nil_iff]
    intro i hi
    have h := hd i (by simpa using hi)
    have hi' : i < l.size := by rw [hs]; simpa using hi
    have : l[i] = true := by simpa [hi'] using h
    simp [hi', this]
  | succ fuel ih =>
    intro c l a w hs hcount hst hI
    refine ⟨fun h0 => ?_, fun i hi => ?_⟩
    · have hd := hrd l h0 hs
      exact hfin c l a w hs hst hd hI
    · obtain ⟨o, ho, hlt, hl0, hneed⟩ := ready_iff hi
      have hil : i < l.size := by omega
      have hli : l[i] = false := by simpa [hil] using hl0
      have hopi := hops i hlt
      rw [ho] at hopi
      simp only [Bool.and_eq_true, List.all_eq_true, List.mem_range] at hopi
      obtain ⟨⟨⟨⟨hg, hdn⟩, hrds⟩, hdist⟩, hback⟩ := hopi
      obtain ⟨x, hx⟩ := mt_some c
      have hstx := hst x hx
      -- what it reads stands as in the end
      have hev : execOp a.eval o = execOp (F x).eval o := by
        refine execOp_congr o (Region.noSelect_spec hsel i o · · ho) fun z hz => ?_
        cases z with
        | tmp t =>
          have ht : t ∈ reads o := List.mem_filterMap.2 ⟨.tmp t, by simpa using hz, rfl⟩
          have := hstx.2.2 t fun j hj => by
            by_cases hjl : j < ops.size
            · have hq := hrds t ht j hjl
              rw [hj] at hq
              simp at hq
              exact hneed j (by simpa using hq)
            · simp [dstAt, Array.getElem?_eq_none (Nat.le_of_not_lt hjl)] at hj
          simp only [Act.eval, Array.getD_eq_getD_getElem?, this]
        | _ => rfl
      -- so does its guard
      have hwt : Region.wanted o (yielded ops a.tmps) = Region.wanted o (yielded ops (F x).tmps) := by
        unfold Region.wanted
        cases hgd : o.guard with
        | none => rfl
        | some jw =>
          obtain ⟨j, want⟩ := jw
          rw [hgd] at hg
          simp only [List.all_eq_true, List.mem_range] at hg
          have : yielded ops a.tmps j = yielded ops (F x).tmps j := by
            unfold yielded
            cases hd : (ops[j]?).bind (·.dst) with
            | none => rfl
            | some d =>
              have hd' : dstAt ops j = some d := hd
              have := hstx.2.2 d fun k hk => by
                by_cases hkl : k < ops.size
                · have hq := hg k hkl
                  rw [hd', hk] at hq
                  simp at hq
                  exact hneed k (by simpa using hq)
                · simp [dstAt, Array.getElem?_eq_none (Nat.le_of_not_lt hkl)] at hk
              simp only [Option.bind_some, this]
          simp only [this]
      have hli' : l.getD i false = false := by simp [hil, hli]
      have hok := allC_at hall i o (by simpa using ho) c l w x hs (by rw [Nat.zero_add]; exact hli') hneed hI hx
      rw [Nat.zero_add] at hok
      -- the same run; what is put into a stands where F stands
      have key : ∀ v w' c', (∀ y, mt c' y → mt c y) → (∀ y, mt c' y → agr o ((F x).put o.dst v) (F y)) → I c' (l.setIfInBounds i true) w' → wpAny P .any ops Q fuel (l.setIfInBounds i true) (a.put o.dst v) w' := by
        intro v w' c' hle hF hIJ
        refine ih c' _ _ _ (by simpa using hs) ?_ ?_ hIJ
        · have h1 : l.toList.count false = (l.setIfInBounds i true).toList.count false + 1 := by
            rw [Array.toList_setIfInBounds]
            have hsplit : l.toList = l.toList.take i ++ false :: l.toList.drop (i + 1) := by
              rw [← hli]
              have := List.take_append_drop i l.toList
              rw [List.drop_eq_getElem_cons (by simpa using hil)] at this
              simpa using this.symm
            have hset : l.toList.set i true = l.toList.take i ++ true :: l.toList.drop (i + 1) := by
              rw [List.set_eq_take_append_cons_drop, if_pos (by simpa using hil)]
            rw [hset]
            conv => lhs; rw [hsplit]
            simp
            omega
          omega
        · intro y hy
          obtain ⟨h1, h2, h3⟩ := hst y (hle y hy)
          have hFy := hF y hy
          cases hd : o.dst with
          | none =>
            refine ⟨h1, h2, fun s hsx => h3 s fun j hj => ?_⟩
            have := hsx j hj
            by_cases hji : j = i
            · subst hji
              simp [dstAt, ho, hd] at hj
            · rwa [getD_set_ne false (Ne.symm hji)] at this
          | some d =>
            refine ⟨h1, by simpa [Act.put] using h2, fun s hsx => ?_⟩
            by_cases hsd : s = d
            · subst hsd
              have hdn' : s < n := by simpa [hd] using hdn
              have hF' := hFy s hd
              rw [hd] at hF'
              have n1 := hn x
              have n2 := hn y
              simp only [Act.put] at hF' ⊢
              rw [Array.getElem?_setIfInBounds_self_of_lt (by omega)] at hF'
              rw [Array.getElem?_setIfInBounds_self_of_lt (by omega)]
              exact hF'
            · simp only [Act.put]
              rw [Array.getElem?_setIfInBounds_ne (Ne.symm hsd)]
              refine h3 s fun j hj => ?_
              have := hsx j hj
              by_cases hji : j = i
              · subst hji
                simp [dstAt, ho, hd] at hj
                exact absurd hj.symm hsd
              · rwa [getD_set_ne false (Ne.symm hji)] at this
      unfold Go.wpOp
      simp only [ho]
      unfold opC at hok
      by_cases hw : Region.wanted o (yielded ops (F x).tmps) = true
      · rw [if_pos hw] at hok
        rw [hwt, if_pos hw]
        refine .inl (upon_false ?_)
        unfold Oper.wp at hok ⊢
        rw [hev]
        have key' : ∀ v w', (((F x).put o.dst v).defers = (F x).defers ∧ ∃ c', (∀ y, mt c' y → mt c y) ∧ (∀ y, mt c' y → agr o ((F x).put o.dst v) (F y)) ∧ I c' (l.setIfInBounds i true) w') → wpAny P .any ops Q fuel (l.setIfInBounds i true) (a.put o.dst v) w' := by
          rintro v w' ⟨_, c', g1, g2, g3⟩
          exact key v w' c' g1 g2 g3
        generalize (execOp (F x).eval o).run P w = r at hok ⊢
        cases r with
        | ok nx w' =>
          cases nx with
          | value v => exact key' _ _ hok
          | skip => exact key' _ _ hok
          | «defer» d =>
            simp only [Oper.upon] at hok ⊢
            have := hok.1
            have hlen := congrArg List.length this
            cases hd : o.dst <;> simp [Act.put, hd] at hlen
          | enter f args =>
            simp only [Oper.upon] at hok ⊢
            exact Calls.mono hok (fun e w'' he => by cases e <;> first | exact key' _ _ he | exact he)
          | row row args =>
            simp only [Oper.upon] at hok ⊢
            exact Rows.mono hok (fun _ _ he => key' _ _ he)
          | _ => exact hok
        | halt x w' => cases x <;> exact hok
      · rw [if_neg hw] at hok
        rw [hwt, if_neg hw]
        exact key undef w c (fun _ h => h) hok.1 hok.2

theorem opc_val {F : α → Act} {c : Option α} {x : α} {o : Oper} {w w' : World} {I : Option α → World → Prop} {d : Nat} {v : Value} (hw : Region.wanted o (yielded ops (F x).tmps) = true) (hrun : (execOp (F x).eval o).run P w = .ok (.value v) w') (hd : o.dst = some d) (hv : ∀ y, (F y).tmps[d]? = some v) (hI : I c w') : opC P ops F c x o w I := by
  unfold opC
  rw [if_pos hw]
  unfold Oper.wp
  rw [hrun]
  simp only [Oper.upon]
  refine ⟨by rw [hd]; rfl, c, fun _ h => h, fun y _ e he => ?_, hI⟩
  rw [hd] at he ⊢
  cases he
  rw [hv y]
  simp only [Act.put]
  exact Array.getElem?_setIfInBounds_self_of_lt (Array.getElem?_eq_some_iff.1 (hv x)).1
theorem opc_off {F : α → Act} {c : Option α} {x : α} {o : Oper} {w : World} {I : Option α → World → Prop} {d : Nat} (hw : Region.wanted o (yielded ops (F x).tmps) = false) (hd : o.dst = some d) (hv : ∀ y, (F y).tmps[d]? = some undef) (hI : I c w) : opC P ops F c x o w I := by
  unfold opC
  rw [if_neg (by rw [hw]; decide)]
  refine ⟨fun y _ e he => ?_, hI⟩
  rw [hd] at he ⊢
  cases he
  rw [hv y]
  simp only [Act.put]
  exact Array.getElem?_setIfInBounds_self_of_lt (Array.getElem?_eq_some_iff.1 (hv x)).1
theorem opc_call {F : α → Act} {c : Option α} {x : α} {o : Oper} {w : World} {I : Option α → World → Prop} {d : Nat} {v : Value} {f : FuncId} {args : Array Value} (hw : Region.wanted o (yielded ops (F x).tmps) = true) (hrun : (execOp (F x).eval o).run P w = .ok (.enter f args) w) (hd : o.dst = some d) (hv : ∀ y, (F y).tmps[d]? = some v)
    (hcall : Calls P f args w fun e w' => e = .returned v ∧ I c w') : opC P ops F c x o w I := by
  unfold opC
  rw [if_pos hw]
  unfold Oper.wp
  rw [hrun]
  simp only [Oper.upon]
  refine Calls.mono hcall ?_
  rintro e w' ⟨rfl, hI⟩
  refine ⟨by rw [hd]; rfl, c, fun _ h => h, fun y _ e he => ?_, hI⟩
  rw [hd] at he ⊢
  cases he
  rw [hv y]
  simp only [Act.put]
  exact Array.getElem?_setIfInBounds_self_of_lt (Array.getElem?_eq_some_iff.1 (hv x)).1
theorem opc_skip {F : α → Act} {c : Option α} {x : α} {o : Oper} {w w' : World} {I : Option α → World → Prop} (hw : Region.wanted o (yielded ops (F x).tmps) = true) (hrun : (execOp (F x).eval o).run P w = .ok .skip w') (hd : o.dst = none) (hI : I c w') : opC P ops F c x o w I := by
  unfold opC
  rw [if_pos hw]
  unfold Oper.wp
  rw [hrun]
  simp only [Oper.upon]
  exact ⟨by rw [hd]; rfl, c, fun _ h => h, (fun y _ e he => by rw [hd] at he; cases he), hI⟩
theorem opc_store {F : α → Act} {c : Option α} {x : α} {o : Oper} {w : World} {J : Option α → World → Prop} (hw : Region.wanted o (yielded ops (F x).tmps) = true) (t : TypeId) (xo yo : Operand) (ho : o.op = .store t xo yo) (hd : o.dst = none) (g off : Nat) (hx : (F x).eval xo = .pointer (some ⟨g, off, none⟩)) (vs : Array Value) (hy : (F x).eval yo = .agg vs)
    (cs : Array Value) (tt : TypeId) (hg : w.heap[g]? = some (.cells cs tt (0, 0))) (hi : (P.info? t).map (·.size) = some vs.size) (hle : off + vs.size ≤ cs.size) (h1 : ∀ v ∈ vs.toList, v.oneCell' = true)
    (cs' : Array Value) (hcs : splice cs off vs = cs') (hJ : ∀ w1, w1.heap[g]? = some (.cells cs' tt (0, 0)) → Upd w w1 g → J c w1) : opC P ops F c x o w J := by
  obtain ⟨w1, hr, hb, hu⟩ := run_store_at (P := P) (ρ := (F x).eval) t xo yo ho g off hx vs hy cs tt hg hi hle h1
  exact opc_skip hw hr hd (hJ w1 (hcs ▸ hb) hu)
/-- an alloc: the block that it makes is the number that is picked -/
theorem opc_alloc {F : Nat → Act} {x : Nat} {o : Oper} {w : World} {I : Option Nat → World → Prop} {d : Nat} (hw : Region.wanted o (yielded ops (F x).tmps) = true) (t : TypeId) (ho : o.op = .alloc t) (z : Value) (hz : (P.info? t).bind (·.zero) = some z) (cs : Array Value) (hv : z.cells = cs) (hd : o.dst = some d)
    (hF : ∀ y, (F y).tmps[d]? = some (.pointer (some ⟨y, 0, none⟩))) (hI : ∀ g w1, New w w1 g cs t → I (some g) w1) : opC P ops F none x o w I := by
  have hr : (execOp (F x).eval o).run P w = .ok (.value (.pointer (some ⟨w.heap.size, 0, none⟩))) (w.alloc (.cells cs t (0, 0))) := by
    unfold execOp
    cases hq : P.info? t with
    | none => simp [hq] at hz
    | some i =>
      have hzz : i.zero = some z := by simpa [hq] using hz
      simp only [ho, Instr.alloc, zeroValue, typeInfo, newVar, newRow]
      simp [Sem.run_bind, hq, hzz, newVar, newRow, hv]
  unfold opC
  rw [if_pos hw]
  unfold Oper.wp
  rw [hr]
  simp only [Oper.upon]
  refine ⟨by rw [hd]; rfl, some w.heap.size, fun y _ => .inl rfl, fun y hy e he => ?_, hI _ _ (New.alloc w cs t)⟩
  rw [hd] at he ⊢
  cases he
  have hy' : y = w.heap.size := by
    rcases hy with h | h
    · cases h
    · exact (Option.some.inj h).symm
  subst hy'
  rw [hF w.heap.size]
  simp only [Act.put]
  exact Array.getElem?_setIfInBounds_self_of_lt (Array.getElem?_eq_some_iff.1 (hF x)).1

/-- THE LAW -/
theorem region_picked [Inhabited α] {id : Nat} {a : Act} {w : World} (hm : P.follows .mixedOrders = true) (ds : List Nat) (vals : α → List (Nat × Value)) (hds : ∀ x, (vals x).map Prod.fst = ds)
    (F : α → Act) (hF : ∀ x, actPuts a (vals x) = F x) (n : Nat) (hn : a.tmps.size = n)
    (hc : chk4 ops n ds = true) (I : Option α → Array Bool → World → Prop) (hI : ∀ l, (∀ i, l.getD i false = false) → I none l w.drew) (hall : allC P ops F ops.size I 0 ops.toList)
    (hend : ∀ c l w' x, (∀ i, i < ops.size → l.getD i false = true) → I c l w' → mt c x → Q .normal (F x) w') : (Code.region id ops true).wp P Q a w := by
  subst hn
  have hF' : F = fun x => { a with tmps := puts a.tmps (vals x) } := funext fun x => by rw [← hF x, actPuts_eq]
  subst hF'
  refine wp_region_any hm ?_
  refine wpAny_picked (n := a.tmps.size) (ds := ds) (fun x => puts_size (vals x) a.tmps) hc hall hend ops.size none _ a _ (by simp) (by simp) (fun x _ => ⟨rfl, (puts_size (vals x) a.tmps).symm, fun s hs => ?_⟩) (hI _ fun i => ?_)
  · refine (puts_other (vals x) a.tmps fun hmem => ?_).symm
    rw [hds] at hmem
    simp only [chk4, Bool.and_eq_true, List.all_eq_true, List.any_eq_true, List.mem_range] at hc
    obtain ⟨j, hj, he⟩ := hc.1.2 s hmem
    have := hs j (by simpa using he)
    simp [hj] at this
  · simp only [Array.getD_eq_getD_getElem?, Array.getElem?_replicate]
    split <;> rfl
theorem opc_pick {F : α → Act} {x : α} {o : Oper} {w : World} {I : Option α → World → Prop} {d : Nat} {v : α → Value} {f : FuncId} {args : Array Value} (hw : Region.wanted o (yielded ops (F x).tmps) = true) (hrun : (execOp (F x).eval o).run P w = .ok (.enter f args) w) (hd : o.dst = some d) (hv : ∀ y, (F y).tmps[d]? = some (v y))
    (hcall : Calls P f args w fun e w' => ∃ g, e = .returned (v g) ∧ I (some g) w') : opC P ops F none x o w I := by
  unfold opC
  rw [if_pos hw]
  unfold Oper.wp
  rw [hrun]
  simp only [Oper.upon]
  refine Calls.mono hcall ?_
  rintro e w' ⟨g, rfl, hI⟩
  refine ⟨by rw [hd]; rfl, some g, fun _ _ => .inl rfl, fun y hy e he => ?_, hI⟩
  rw [hd] at he ⊢
  cases he
  have hy' : y = g := by
    rcases hy with h | h
    · cases h
    · exact (Option.some.inj h).symm
  subst hy'
  rw [hv y]
  simp only [Act.put]
  exact Array.getElem?_setIfInBounds_self_of_lt (Array.getElem?_eq_some_iff.1 (hv x)).1
/-- an operation whose value, and whose world, are picked as it runs (an append, say) -/
theorem opc_make {F : α → Act} {x : α} {o : Oper} {w w' : World} {I : Option α → World → Prop} {d : Nat} {v : α → Value} (g : α) (hw : Region.wanted o (yielded ops (F x).tmps) = true) (hrun : (execOp (F x).eval o).run P w = .ok (.value (v g)) w') (hd : o.dst = some d) (hv : ∀ y, (F y).tmps[d]? = some (v y))
    (hI : I (some g) w') : opC P ops F none x o w I := by
  unfold opC
  rw [if_pos hw]
  unfold Oper.wp
  rw [hrun]
  simp only [Oper.upon]
  refine ⟨by rw [hd]; rfl, some g, fun _ _ => .inl rfl, fun y hy e he => ?_, hI⟩
  rw [hd] at he ⊢
  cases he
  have hy' : y = g := by
    rcases hy with h | h
    · cases h
    · exact (Option.some.inj h).symm
  subst hy'
  rw [hv y]
  simp only [Act.put]
  exact Array.getElem?_setIfInBounds_self_of_lt (Array.getElem?_eq_some_iff.1 (hv x)).1
end
end Go.Proofs.Ytjopmkfpghdlpaa.A
