/-
  A law of my own for a region that draws its order: each slot is written once, what is read was written before; the operation that stands last waits for all others.
  What each operation gives is told once, over the frame as it stands in the end; a word on the world (Inv) is kept by all but the last.
-/
import Derived.Orders
import Derived.Test.YtjopmkfpghdlpaaArr
namespace Go.Proofs.Ytjopmkfpghdlpaa.A
set_option linter.unusedVariables false
set_option linter.unusedSimpArgs false

def needs (o : Oper) : List Nat := (o.after.toList.filter (fun e => Region.binds .any e)).map (fun e => e.on)
def reads (o : Oper) : List Nat := o.op.operands.toList.filterMap fun | .tmp t => some t | _ => none
def dstAt (ops : Array Oper) (j : Nat) : Option Nat := (ops[j]?).bind (·.dst)
def chk (ops : Array Oper) (n : Nat) (ds : List Nat) : Bool :=
  Region.noSelect ops &&
  ((List.range ops.size).all fun i => match ops[i]? with
    | none => false
    | some o => o.guard.isNone && (match o.dst with | some d => decide (d < n) | none => true) &&
      ((reads o).all fun t => (List.range ops.size).all fun j => dstAt ops j != some t || (needs o).contains j) &&
      ((List.range ops.size).all fun j => j == i || o.dst.isNone || dstAt ops j != o.dst) &&
      ((needs o).all fun j => decide (j < i))) &&
  (ds.all fun d => (List.range ops.size).any fun j => dstAt ops j == some d) &&
  (match ops[ops.size - 1]? with
    | none => false
    | some o => (List.range (ops.size - 1)).all fun j => (needs o).contains j)

def puts (t : Array Value) : List (Nat × Value) → Array Value
  | [] => t
  | (d, v) :: r => puts (t.setIfInBounds d v) r
theorem puts_size (r : List (Nat × Value)) : ∀ t : Array Value, (puts t r).size = t.size := by
  induction r with
  | nil => intro t; rfl
  | cons x r ih => intro t; obtain ⟨d, v⟩ := x; rw [puts, ih, Array.size_setIfInBounds]
theorem puts_other {s : Nat} (r : List (Nat × Value)) : ∀ t : Array Value, s ∉ r.map Prod.fst → (puts t r)[s]? = t[s]? := by
  induction r with
  | nil => intro t _; rfl
  | cons x r ih =>
    intro t h
    obtain ⟨d, v⟩ := x
    simp only [List.map_cons, List.mem_cons, not_or] at h
    rw [puts, ih _ h.2, Array.getElem?_setIfInBounds_ne (Ne.symm h.1)]

section
variable {P : Program} {ops : Array Oper} {Q : Exit → Act → World → Prop}

/-- one operation, over the frame of the end -/
def opOk (P : Program) (F : Act) (o : Oper) (w : World) (I : World → Prop) : Prop :=
  o.wp P F w (fun a' w' => a' = F ∧ I w') (fun _ _ _ => False)

def allOk (P : Program) (F : Act) (I J : World → Prop) : List Oper → Prop
  | [] => True
  | [o] => ∀ w, I w → opOk P F o w J
  | o :: p :: r => (∀ w, I w → opOk P F o w I) ∧ allOk P F I J (p :: r)

theorem allOk_at {F : Act} {I J : World → Prop} : ∀ {l : List Oper}, allOk P F I J l → ∀ (i : Nat) (o : Oper), l[i]? = some o → ∀ w, I w → opOk P F o w (if i + 1 = l.length then J else I)
  | [], _, i, o, h => by simp at h
  | [p], h, i, o, ho => by
    have hi : i = 0 := by
      have := (List.getElem?_eq_some_iff.1 ho).1
      simp at this; omega
    subst hi
    simp at ho
    subst ho
    simpa [allOk] using h
  | p :: q :: r, h, i, o, ho => by
    cases i with
    | zero =>
      simp at ho
      subst ho
      simpa using h.1
    | succ i =>
      have := allOk_at h.2 i o (by simpa using ho)
      simpa using this

theorem upon_false {o : Oper} {a : Act} {w : World} {K : Act → World → Prop} (h : o.wp P a w K (fun _ _ _ => False)) : o.wp P a w K Q := by
  unfold Oper.wp at *
  generalize (execOp a.eval o).run P w = r at *
  cases r with
  | ok n w' =>
    cases n <;> simp only [Oper.upon] at h ⊢ <;>
      first
        | exact h
        | exact Calls.mono h (fun e w'' he => by cases e <;> first | exact he | exact absurd he (by simp [LetsOut]))
  | halt x w' => cases x <;> simp only [Oper.upon] at h ⊢ <;> first | exact h.elim | exact h

/-- the frame where some have been done: slots that are no more to be written stand as in the end -/
def Stands (ops : Array Oper) (F : Act) (l : Array Bool) (a : Act) : Prop :=
  a.defers = F.defers ∧ a.tmps.size = F.tmps.size ∧ ∀ s, (∀ i, dstAt ops i = some s → l.getD i false = true) → a.tmps[s]? = F.tmps[s]?

theorem ready_iff {l : Array Bool} {i : Nat} (h : i ∈ Region.ready .any ops l) : ∃ o, ops[i]? = some o ∧ i < ops.size ∧ l.getD i true = false ∧ ∀ j ∈ needs o, l.getD j false = true := by
  obtain ⟨h0, o, ho, hall⟩ := mem_ready.1 h
  refine ⟨o, ho, (Array.getElem?_eq_some_iff.1 ho).1, h0, fun j hj => ?_⟩
  obtain ⟨e, he, rfl⟩ := List.mem_map.1 hj
  obtain ⟨he1, he2⟩ := List.mem_filter.1 he
  exact hall e (by simpa using he1) (by simpa using he2)

theorem all_listed {l : Array Bool} (hback : ∀ i o, ops[i]? = some o → ∀ j ∈ needs o, j < i) (h : Region.ready .any ops l = []) (hs : l.size = ops.size) : ∀ i, i < ops.size → l.getD i false = true := by
  intro i
  induction i using Nat.strongRecOn with
  | _ i ih =>
    intro hi
    have hil : i < l.size := by omega
    cases hb : l[i] with
    | true => simp [hil, hb]
    | false =>
      exfalso
      have ho : ops[i]? = some ops[i] := by simp [hi]
      have : i ∈ Region.ready .any ops l := by
        rw [mem_ready]
        refine ⟨by simp [hil, hb], _, ho, fun e he hbd => ?_⟩
        have hj : e.on ∈ needs ops[i] := List.mem_map.2 ⟨e, List.mem_filter.2 ⟨by simpa using he, by simpa using hbd⟩, rfl⟩
        have hlt := hback i _ ho _ hj
        exact ih _ hlt (by omega)
      rw [h] at this
      simp at this

theorem wpAny_stands {F : Act} {I J : World → Prop} {n : Nat} {ds : List Nat} (hn : F.tmps.size = n) (hc : chk ops n ds = true) (hall : allOk P F I J ops.toList)
    (hend : ∀ w, J w → Q .normal F w) :
    ∀ (fuel : Nat) (l : Array Bool) (a : Act) (w : World), l.size = ops.size → l.toList.count false ≤ fuel → Stands ops F l a →
      (if l.getD (ops.size - 1) false = true then J w ∧ (∀ i, i < ops.size → l.getD i false = true) else I w) →
      wpAny P .any ops Q fuel l a w := by
  simp only [chk, Bool.and_eq_true, List.all_eq_true, List.mem_range] at hc
  obtain ⟨⟨⟨hsel, hops⟩, _⟩, hlast⟩ := hc
  have hfin : ∀ (l : Array Bool) (a : Act) (w : World), l.size = ops.size → Stands ops F l a → (∀ i, i < ops.size → l.getD i false = true) → J w → Q .normal a w := by
    intro l a w hs hst hd hJ
    have ha : a = F := by
      obtain ⟨h1, h2, h3⟩ := hst
      cases a; cases F
      simp only at h1 h2 h3
      congr 1
      · exact Array.ext_getElem? fun s => h3 s fun i hi => by
          by_cases hlt : i < ops.size
          · exact hd i hlt
          · simp [dstAt, Array.getElem?_eq_none (Nat.le_of_not_lt hlt)] at hi
    exact ha ▸ hend w hJ
  have hrd : ∀ l', Region.ready .any ops l' = [] → l'.size = ops.size → ∀ i, i < ops.size → l'.getD i false = true := fun l' h1 h2 => all_listed (fun i o ho j hj => by
    have := hops i (Array.getElem?_eq_some_iff.1 ho).1
    rw [ho] at this
    simp only [Bool.and_eq_true, List.all_eq_true] at this
    simpa using this.2 j hj) h1 h2
  have hpos : 0 < ops.size := by
    rcases Nat.eq_zero_or_pos ops.size with h0 | h0
    · rw [Array.getElem?_eq_none (by omega)] at hlast; simp at hlast
    · exact h0
  intro fuel
  induction fuel with
  | zero =>
    intro l a w hs hcount hst hI
    have hd : ∀ i, i < ops.size → l.getD i false = true := by
      intro i hi
      have : l[i]'(by omega) = true := by
        cases hb : l[i]'(by omega) with
        | true => rfl
        | false =>
          have : false ∈ l.toList := by rw [← hb]; simp
          have := List.count_pos_iff.2 this
          omega
      simp [hs, hi, this]
    rw [if_pos (hd _ (by omega))] at hI
    refine ⟨?_, hfin l a w hs hst hd hI.1⟩
    unfold Region.ready
    rw [List.filter_eq_nil_iff]
    intro i hi
    have h := hd i (by simpa using hi)
    have hi' : i < l.size := by rw [hs]; simpa using hi
    have : l[i] = true := by simpa [hi'] using h
    simp [hi', this]
  | succ fuel ih =>
    intro l a w hs hcount hst hI
    refine ⟨fun h0 => ?_, fun i hi => ?_⟩
    · have hd := hrd l h0 hs
      rw [if_pos (hd _ (by omega))] at hI
      exact hfin l a w hs hst hd hI.1
    · obtain ⟨o, ho, hlt, hl0, hneed⟩ := ready_iff hi
      have hil : i < l.size := by omega
      have hli : l[i] = false := by simpa [hil] using hl0
      have hopi := hops i hlt
      rw [ho] at hopi
      simp only [Bool.and_eq_true, Option.isNone_iff_eq_none, List.all_eq_true, List.mem_range] at hopi
      obtain ⟨⟨⟨⟨hg, hdn⟩, hrds⟩, hdist⟩, hback⟩ := hopi
      -- what it reads stands as in the end
      have hev : execOp a.eval o = execOp F.eval o := by
        refine execOp_congr o (Region.noSelect_spec hsel i o · · ho) fun x hx => ?_
        cases x with
        | tmp t =>
          have ht : t ∈ reads o := List.mem_filterMap.2 ⟨.tmp t, by simpa using hx, rfl⟩
          have := hst.2.2 t fun j hj => by
            by_cases hjl : j < ops.size
            · have hq := hrds t ht j hjl
              rw [hj] at hq
              simp at hq
              exact hneed j (by simpa using hq)
            · simp [dstAt, Array.getElem?_eq_none (Nat.le_of_not_lt hjl)] at hj
          simp only [Act.eval, Array.getD_eq_getD_getElem?, this]
        | _ => rfl
      have hw : Region.wanted o (yielded ops a.tmps) = true := by simp [Region.wanted, hg]
      have hnotlast : l.getD (ops.size - 1) false = false := by
        cases hb : l.getD (ops.size - 1) false with
        | false => rfl
        | true =>
          rw [if_pos hb] at hI
          have := hI.2 i hlt
          simp [hil, hli] at this
      have hIw : I w := by rw [if_neg (by simp [hnotlast])] at hI; exact hI
      have hok := allOk_at hall i o (by simpa using ho) w hIw
      unfold Go.wpOp
      simp only [ho, hw, if_true]
      refine .inl (upon_false ?_)
      unfold opOk Oper.wp at hok
      unfold Oper.wp
      rw [hev]
      -- the same run; what is put into a stands where F stands
      have key : ∀ v w', (F.put o.dst v = F ∧ (if i + 1 = ops.toList.length then J else I) w') → wpAny P .any ops Q fuel (l.setIfInBounds i true) (a.put o.dst v) w' := by
        rintro v w' ⟨hF, hIJ⟩
        refine ih _ _ _ (by simpa using hs) ?_ ?_ ?_
        · have h1 : l.toList.count false = (l.setIfInBounds i true).toList.count false + 1 := by
            rw [Array.toList_setIfInBounds]
            have hsplit : l.toList = l.toList.take i ++ false :: l.toList.drop (i + 1) := by
              rw [← hli]
              have := List.take_append_drop i l.toList
              rw [List.drop_eq_getElem_cons (by simpa using hil)] at this
              simpa using this.symm
            have hset : l.toList.set i true = l.toList.take i ++ true :: l.toList.drop (i + 1) := by
              rw [List.set_eq_take_append_cons_drop, if_pos (by simpa using hil)]
            rw [hset]
            conv => lhs; rw [hsplit]
            simp
            omega
          omega
        · obtain ⟨h1, h2, h3⟩ := hst
          cases hd : o.dst with
          | none =>
            refine ⟨h1, h2, fun s hsx => h3 s fun j hj => ?_⟩
            have := hsx j hj
            by_cases hji : j = i
            · subst hji
              simp [dstAt, ho, hd] at hj
            · rwa [getD_set_ne false (Ne.symm hji)] at this
          | some d =>
            refine ⟨h1, by simpa [Act.put] using h2, fun s hsx => ?_⟩
            by_cases hsd : s = d
            · subst hsd
              have hdn' : s < n := by simpa [hd] using hdn
              rw [hd] at hF
              have hF' := congrArg (fun b : Act => b.tmps[s]?) hF
              simp only [Act.put] at hF' ⊢
              rw [Array.getElem?_setIfInBounds_self_of_lt (by omega)] at hF'
              rw [Array.getElem?_setIfInBounds_self_of_lt (by omega)]
              exact hF'
            · simp only [Act.put]
              rw [Array.getElem?_setIfInBounds_ne (Ne.symm hsd)]
              refine h3 s fun j hj => ?_
              have := hsx j hj
              by_cases hji : j = i
              · subst hji
                simp [dstAt, ho, hd] at hj
                exact absurd hj.symm hsd
              · rwa [getD_set_ne false (Ne.symm hji)] at this
        · have hlen : ops.toList.length = ops.size := Array.length_toList
          by_cases hlst : i + 1 = ops.size
          · rw [if_pos (by rw [hlen]; exact hlst)] at hIJ
            have hil2 : ops.size - 1 = i := by omega
            rw [if_pos (by rw [hil2]; simp [hil])]
            refine ⟨hIJ, fun j hj => ?_⟩
            by_cases hji : j = i
            · subst hji; simp [hil]
            · rw [getD_set_ne false (Ne.symm hji)]
              rw [hil2, ho] at hlast
              simp only [List.all_eq_true, List.mem_range] at hlast
              exact hneed j (by simpa using hlast j (by omega))
          · rw [if_neg (by rw [hlen]; exact hlst)] at hIJ
            rw [getD_set_ne false (by omega), if_neg (by simp [hnotlast])]
            exact hIJ
      generalize (execOp F.eval o).run P w = r at hok ⊢
      cases r with
      | ok nx w' =>
        cases nx with
        | value v => exact key _ _ hok
        | skip => exact key _ _ hok
        | «defer» d =>
          simp only [Oper.upon] at hok ⊢
          have := congrArg Act.defers hok.1
          have hlen := congrArg List.length this
          cases hd : o.dst <;> simp [Act.put, hd] at hlen
        | enter f args =>
          simp only [Oper.upon] at hok ⊢
          exact Calls.mono hok (fun e w'' he => by cases e <;> first | exact key _ _ he | exact he)
        | row row args =>
          simp only [Oper.upon] at hok ⊢
          exact Rows.mono hok (fun _ _ he => key _ _ he)
        | _ => exact hok
      | halt x w' => cases x <;> exact hok

def actPuts (a : Act) : List (Nat × Value) → Act
  | [] => a
  | (d, v) :: r => actPuts (a.put (some d) v) r
theorem actPuts_eq (r : List (Nat × Value)) : ∀ a : Act, actPuts a r = { a with tmps := puts a.tmps r } := by
  induction r with
  | nil => intro a; rfl
  | cons x r ih => intro a; obtain ⟨d, v⟩ := x; rw [actPuts, ih]; rfl

/-- THE LAW: vals: what each slot holds in the end; ds: the slots, as numbers (a closed check); F: the frame in the end. -/
theorem region_fin {id : Nat} {a : Act} {w : World} (hm : P.follows .mixedOrders = true) (ds : List Nat) (vals : List (Nat × Value)) (hds : vals.map Prod.fst = ds)
    (F : Act) (hF : actPuts a vals = F) (n : Nat) (hn : a.tmps.size = n)
    (hc : chk ops n ds = true) (I J : World → Prop) (hI : I w.drew) (hall : allOk P F I J ops.toList)
    (hend : ∀ w', J w' → Q .normal F w') : (Code.region id ops true).wp P Q a w := by
  subst hn
  rw [actPuts_eq] at hF
  subst hF
  refine wp_region_any hm ?_
  have hpos : 0 < ops.size := by
    simp only [chk, Bool.and_eq_true] at hc
    rcases Nat.eq_zero_or_pos ops.size with h0 | h0
    · have := hc.2
      rw [Array.getElem?_eq_none (by omega)] at this; simp at this
    · exact h0
  refine wpAny_stands (n := a.tmps.size) (ds := ds) (puts_size vals a.tmps) hc hall hend ops.size _ a _ (by simp) (by simp) ⟨rfl, (puts_size vals a.tmps).symm, fun s hs => ?_⟩ ?_
  · refine (puts_other vals a.tmps fun hmem => ?_).symm
    rw [hds] at hmem
    simp only [chk, Bool.and_eq_true, List.all_eq_true, List.any_eq_true, List.mem_range] at hc
    obtain ⟨j, hj, he⟩ := hc.1.2 s hmem
    have := hs j (by simpa using he)
    simp [hj] at this
  · rw [if_neg (by have : ops.size - 1 < ops.size := by omega
                   simp [Array.getElem?_replicate, this])]
    exact hI

theorem op_val {F : Act} {o : Oper} {w w' : World} {I : World → Prop} {d : Nat} {v : Value} (hrun : (execOp F.eval o).run P w = .ok (.value v) w') (hd : o.dst = some d) (hv : F.tmps[d]? = some v) (hI : I w') : opOk P F o w I := by
  unfold opOk Oper.wp
  rw [hrun]
  simp only [Oper.upon]
  refine ⟨?_, hI⟩
  rw [hd]
  simp only [Act.put]
  cases F with
  | mk t ds =>
    simp only at hv ⊢
    congr 1
    apply Array.ext_getElem?
    intro s
    rw [Array.getElem?_setIfInBounds]
    split
    · rename_i h; subst h
      rw [hv, if_pos (Array.getElem?_eq_some_iff.1 hv).1]
    · rfl
theorem op_skip {F : Act} {o : Oper} {w w' : World} {I : World → Prop} (hrun : (execOp F.eval o).run P w = .ok .skip w') (hd : o.dst = none) (hI : I w') : opOk P F o w I := by
  unfold opOk Oper.wp
  rw [hrun]
  simp only [Oper.upon]
  exact ⟨by rw [hd]; rfl, hI⟩
theorem op_store {F : Act} {o : Oper} {w : World} {J : World → Prop} (t : TypeId) (x y : Operand) (ho : o.op = .store t x y) (hd : o.dst = none) (g off : Nat) (hx : F.eval x = .pointer (some ⟨g, off, none⟩)) (vs : Array Value) (hy : F.eval y = .agg vs)
    (cs : Array Value) (tt : TypeId) (hg : w.heap[g]? = some (.cells cs tt (0, 0))) (hi : (P.info? t).map (·.size) = some vs.size) (hle : off + vs.size ≤ cs.size) (h1 : ∀ v ∈ vs.toList, v.oneCell' = true)
    (cs' : Array Value) (hcs : splice cs off vs = cs') (hJ : ∀ w1, w1.heap[g]? = some (.cells cs' tt (0, 0)) → Upd w w1 g → J w1) : opOk P F o w J := by
  obtain ⟨w1, hr, hb, hu⟩ := run_store_at (P := P) (ρ := F.eval) t x y ho g off hx vs hy cs tt hg hi hle h1
  exact op_skip hr hd (hJ w1 (hcs ▸ hb) hu)
theorem op_build {F : Act} {o : Oper} {w : World} {I : World → Prop} {d : Nat} (t : TypeId) (parts : Array (Nat × Operand)) (ho : o.op = .build t parts) (ps : List (Nat × Value)) (hps : (parts.map fun (i, x) => (i, F.eval x)).toList = ps)
    (cs : Array Value) (hb : P.built t ps = some cs) (hd : o.dst = some d) (hv : F.tmps[d]? = some (.agg cs)) (hI : I w) : opOk P F o w I :=
  op_val (run_build_to t parts ho cs (hps ▸ hb)) hd hv hI
theorem op_call {F : Act} {o : Oper} {w : World} {I : World → Prop} {d : Nat} {v : Value} {f : FuncId} {args : Array Value} (hrun : (execOp F.eval o).run P w = .ok (.enter f args) w) (hd : o.dst = some d) (hv : F.tmps[d]? = some v)
    (hcall : Calls P f args w fun e w' => e = .returned v ∧ I w') : opOk P F o w I := by
  unfold opOk Oper.wp
  rw [hrun]
  simp only [Oper.upon]
  refine Calls.mono hcall ?_
  rintro e w' ⟨rfl, hI⟩
  refine ⟨?_, hI⟩
  rw [hd]
  simp only [Act.put]
  cases F with
  | mk t ds =>
    simp only at hv ⊢
    congr 1
    apply Array.ext_getElem?
    intro s
    rw [Array.getElem?_setIfInBounds]
    split
    · rename_i h; subst h
      rw [hv, if_pos (Array.getElem?_eq_some_iff.1 hv).1]
    · rfl
end
end Go.Proofs.Ytjopmkfpghdlpaa.A
