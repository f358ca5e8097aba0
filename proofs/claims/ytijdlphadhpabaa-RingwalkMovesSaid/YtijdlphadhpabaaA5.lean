/- A region: its operations in the text's order, and in any order that the edges allow. -/
import Derived.Test.YtijdlphadhpabaaA4
section
namespace Go.AM
open Go Go.RowKit
/-- What has come of an operation: it was left out, or it was carried out ('uses': the numbers that its operands speak of). -/
inductive Oc where
  | skip
  | ran (out : Out) (uses : List Nat)
def Oc.news : Oc → List Nat
  | .skip => []
  | .ran out _ => out.new
def Oc.keys : Oc → List Nat
  | .skip => []
  | .ran out _ => out.upd.map (·.1)
def Oc.uses : Oc → List Nat
  | .skip => []
  | .ran _ u => u
def Oc.says : Oc → List Nat
  | .skip => []
  | .ran out _ => (match out.val with | some x => x.ids | none => []) ++ out.upd.flatMap fun x => match x.2 with | some B => B.ids | none => []
def Oc.val : Oc → Option AV
  | .skip => some (.tup [])
  | .ran out _ => out.val
def Oc.upd : Oc → List (Nat × Option ABlk)
  | .skip => []
  | .ran out _ => out.upd
def guardOf (ops : Array Oper) (σ : Nat → Option AV) (o : Oper) : Option Bool :=
  match o.guard with
  | none => some true
  | some (j, want) => match (ops[j]?).bind (·.dst) with
    | none => some false
    | some d => match σ d with
      | some (.p (.bool b)) => some (b == want)
      | some (.tup []) => some false
      | _ => none
def setO (s : St) (d : Option Nat) (x : Option AV) : St := match d with | some d => s.set d x | none => s
def stepSt (o : Oper) (oc : Oc) (s : St) : St := setO (s.on oc.upd) o.dst oc.val
structure Valid (P : Program) (nt : Nat) (ops : Array Oper) (orcs : Nat → Orc) (i : Nat) (o : Oper) (oc : Oc) (s : St) : Prop where
  op : ops[i]? = some o
  dst : ∀ d, o.dst = some d → d < nt
  run : match oc with
    | .skip => guardOf ops s.σ o = some false
    | .ran out uses => guardOf ops s.σ o = some true ∧ stepOut P o (orcs i) s.σ s.H = some out ∧ out.cond ∧ ∃ args, fetchOp s.σ o.op = some args ∧ uses = AV.ids.idsOf args ++ (orcs i).fp
/-- The operations of the list, one after the other, come to what 'oc' says of them. -/
def Ok (P : Program) (nt : Nat) (ops : Array Oper) (orcs : Nat → Orc) (oc : Nat → Oc) : List Nat → St → St → Prop
  | [], s, s' => s = s'
  | i :: L, s, s' => ∃ o, Valid P nt ops orcs i o (oc i) s ∧ Ok P nt ops orcs oc L (stepSt o (oc i) s) s'
/-- The numbers that are still to be given out are fresh. -/
def FreshAll (oc : Nat → Oc) (L : List Nat) (s : St) : Prop := ∀ j ∈ L, ∀ id ∈ (oc j).news, Fresh s id
section
variable {P : Program} {C : Ctx} {st : St} {a : Act} {w : World} {φ : Phi} {F : Nat → Prop} {ops : Array Oper} {orcs : Nat → Orc} {oc : Nat → Oc} {nt : Nat}
theorem yielded_of (h : Sim C st a w φ F) {o : Oper} {b : Bool} (hg : guardOf ops st.σ o = some b) : Region.wanted o (yielded ops a.tmps) = b := by
  unfold guardOf at hg
  unfold Region.wanted
  split at hg
  · rename_i hn; injection hg with hg; subst hg; rw [hn]
  · rename_i j want hn
    rw [hn]
    simp only [yielded]
    split at hg
    · rename_i hj; injection hg with hg; subst hg; rw [hj]; simp
    · rename_i d hj
      rw [hj]
      simp only [Option.bind_some]
      split at hg
      · rename_i x hx
        injection hg with hg; subst hg
        have hv := (h.env d _ hx).bool_of
        have : a.tmps[d]? = some (.bool x) := by
          rw [Array.getD_eq_getD_getElem?] at hv
          cases hd : a.tmps[d]? with
          | none => rw [hd] at hv; simp [undef] at hv
          | some v => rw [hd] at hv; simp at hv; rw [hv]
        rw [this]
        simp
      · rename_i hx
        injection hg with hg; subst hg
        obtain ⟨us, hv, h2⟩ := h.env d _ hx
        rw [VRs] at h2; subst h2
        rw [Array.getD_eq_getD_getElem?] at hv
        cases hd : a.tmps[d]? with
        | none => simp
        | some v => rw [hd] at hv; simp at hv; rw [hv]; simp
      · cases hg
theorem setO_after (s : St) (out : Out) (dst : Option Nat) : s.after out dst = setO (s.on out.upd) dst out.val := by cases dst <;> rfl
theorem valid_sound (h : Sim C st a w φ F) {i : Nat} {o : Oper} {x : Oc} (hnt : C.nt = nt) (hv : Valid P nt ops orcs i o x st) (hnew : ∀ id ∈ x.news, Fresh st id ∧ C.pin id = none) {K : Act → World → Prop} {Q : Exit → Act → World → Prop}
    (hK : ∀ a' w' φ' F', Sim C (stepSt o x st) a' w' φ' F' → K a' w') : wpOp P ops Q i K a w := by
  unfold wpOp
  rw [hv.op]
  simp only
  have hrun := hv.run
  cases x with
  | skip =>
    simp only at hrun
    rw [yielded_of h hrun]
    simp only [Bool.false_eq_true, if_false]
    refine hK _ _ φ F ?_
    unfold stepSt setO
    cases hd : o.dst with
    | none => exact h
    | some d => exact Sim.put h (by rw [hnt]; exact hv.dst d hd) (fun y hy => by injection hy with hy; subst hy; exact ⟨[], rfl, by rw [VRs]⟩)
  | ran out uses =>
    simp only at hrun
    obtain ⟨h1, h2, h3, _⟩ := hrun
    rw [yielded_of h h1]
    simp only [if_true]
    exact .inl (step_sound h (fun d hd => by rw [hnt]; exact hv.dst d hd) h2 h3 hnew K Q fun a' w' φ' F' hs => hK a' w' φ' F' (by rw [setO_after] at hs; exact hs))
/-! ### Any order -/
theorem fetch_congr {σ σ' : Nat → Option AV} {x : Operand} (h : ∀ t, x = .tmp t → σ' t = σ t) : fetch σ' x = fetch σ x := by
  cases x with
  | tmp t => exact h t rfl
  | _ => rfl
theorem fetchAll_congr {σ σ' : Nat → Option AV} : ∀ {xs : List Operand}, (∀ t, Operand.tmp t ∈ xs → σ' t = σ t) → fetchAll σ' xs = fetchAll σ xs
  | [], _ => rfl
  | x :: xs, h => by
    simp only [fetchAll]
    rw [fetch_congr (x := x) fun t ht => h t (by simp [ht]), fetchAll_congr (xs := xs) fun t ht => h t (by simp [ht])]
theorem fetchOp_congr {σ σ' : Nat → Option AV} {op : Op} (h : ∀ t, Operand.tmp t ∈ op.operands.toList → σ' t = σ t) : fetchOp σ' op = fetchOp σ op := by
  unfold fetchOp
  split
  · rename_i c x y
    simp only [Op.operands] at h
    rw [fetch_congr (x := c) fun t ht => h t (by simp [ht]), fetch_congr (x := x) fun t ht => h t (by simp [ht]), fetch_congr (x := y) fun t ht => h t (by simp [ht])]
  · exact fetchAll_congr h
theorem fetchBlks_congr {H H' : Nat → Option ABlk} : ∀ {l : List Nat}, (∀ id ∈ l, H' id = H id) → fetchBlks H' l = fetchBlks H l
  | [], _ => rfl
  | i :: is, h => by
    simp only [fetchBlks]
    rw [h i (by simp), fetchBlks_congr (l := is) fun id hi => h id (by simp [hi])]
theorem stepOut_congr {σ σ' : Nat → Option AV} {H H' : Nat → Option ABlk} {o : Oper} {orc : Orc} {args : List AV} (hσ : ∀ t, Operand.tmp t ∈ o.op.operands.toList → σ' t = σ t) (ha : fetchOp σ o.op = some args)
    (hH : ∀ id ∈ AV.ids.idsOf args ++ orc.fp, H' id = H id) : stepOut P o orc σ' H' = stepOut P o orc σ H := by
  unfold stepOut
  rw [fetchOp_congr hσ, ha]
  simp only
  rw [fetchBlks_congr (l := AV.ids.idsOf args) fun id hi => hH id (List.mem_append_left _ hi), fetchBlks_congr (l := orc.fp) fun id hi => hH id (List.mem_append_right _ hi)]
theorem guardOf_congr {σ σ' : Nat → Option AV} {o : Oper} (h : ∀ j want d, o.guard = some (j, want) → (ops[j]?).bind (·.dst) = some d → σ' d = σ d) : guardOf ops σ' o = guardOf ops σ o := by
  unfold guardOf
  cases hg : o.guard with
  | none => rfl
  | some x =>
    obtain ⟨j, want⟩ := x
    simp only
    cases hj : (ops[j]?).bind (·.dst) with
    | none => rfl
    | some d => simp only [h j want d hg hj]
theorem setO_σ (s : St) (d : Option Nat) (x : Option AV) (t : Nat) (h : d ≠ some t) : (setO s d x).σ t = s.σ t := by
  unfold setO
  cases d with
  | none => rfl
  | some d => simp only [St.set]; rw [if_neg (fun e => h (by rw [e]))]
theorem setO_H (s : St) (d : Option Nat) (x : Option AV) : (setO s d x).H = s.H := by unfold setO; cases d <;> rfl
theorem on_H_other (l : List (Nat × Option ABlk)) : ∀ (s : St) (id : Nat), id ∉ l.map (·.1) → (s.on l).H id = s.H id := by
  induction l with
  | nil => intro s id _; rfl
  | cons x l ih =>
    intro s id h
    obtain ⟨i, B⟩ := x
    simp only [List.map_cons, List.mem_cons, not_or] at h
    simp only [St.on]
    rw [ih _ _ h.2]
    simp [St.blk, h.1]
theorem on_H_mem (l : List (Nat × Option ABlk)) : ∀ (s s' : St) (id : Nat), id ∈ l.map (·.1) → (s.on l).H id = (s'.on l).H id := by
  induction l with
  | nil => intro s s' id h; cases h
  | cons x l ih =>
    intro s s' id h
    obtain ⟨i, B⟩ := x
    simp only [St.on]
    by_cases h2 : id ∈ l.map (·.1)
    · exact ih _ _ _ h2
    · rw [on_H_other _ _ _ h2, on_H_other _ _ _ h2]
      simp only [List.map_cons, List.mem_cons] at h
      rcases h with rfl | h
      · simp [St.blk]
      · exact absurd h h2
theorem on_H_from (l : List (Nat × Option ABlk)) : ∀ (s : St) (id : Nat) (B : ABlk), (s.on l).H id = some B → (id ∉ l.map (·.1) ∧ s.H id = some B) ∨ (id ∈ l.map (·.1) ∧ ∃ x ∈ l, x.2 = some B) := by
  induction l with
  | nil => intro s id B h; exact .inl ⟨by simp, h⟩
  | cons x l ih =>
    intro s id B h
    obtain ⟨i, B'⟩ := x
    simp only [St.on] at h
    rcases ih _ _ _ h with ⟨h1, h2⟩ | ⟨h1, y, hy, hyB⟩
    · by_cases hi : id = i
      · subst hi
        simp only [St.blk, if_true] at h2
        exact .inr ⟨by simp, _, List.mem_cons_self, h2⟩
      · simp only [St.blk, if_neg hi] at h2
        exact .inl ⟨by simpa [hi] using h1, h2⟩
    · exact .inr ⟨List.mem_cons_of_mem _ h1, y, List.mem_cons_of_mem _ hy, hyB⟩
/-- Two operations that do not touch each other: 'x' may be carried out ahead of 'y' as well. -/
structure Apart (ops : Array Oper) (oy ox : Oper) (cy cx : Oc) : Prop where
  tmps : oy.apart ops ox = true
  k1 : ∀ id ∈ cy.keys, id ∉ cx.uses ∧ id ∉ cx.keys
  k2 : ∀ id ∈ cx.keys, id ∉ cy.uses
  n1 : ∀ id ∈ cy.news, id ∉ cx.says ∧ id ∉ cx.keys
theorem St.ext {s s' : St} (h1 : ∀ t, s.σ t = s'.σ t) (h2 : ∀ id, s.H id = s'.H id) : s = s' := by
  cases s; cases s'; simp only at h1 h2; congr <;> funext x
  · exact h1 x
  · exact h2 x
theorem swap_state {s : St} {oy ox : Oper} {cy cx : Oc} (h : Apart ops oy ox cy cx) : stepSt ox cx (stepSt oy cy s) = stepSt oy cy (stepSt ox cx s) := by
  obtain ⟨_, t2, _⟩ := Oper.apart_spec h.tmps
  have hu : cy.upd.map (·.1) = cy.keys := by cases cy <;> rfl
  have hu' : cx.upd.map (·.1) = cx.keys := by cases cx <;> rfl
  refine St.ext (fun t => ?_) fun id => ?_
  · by_cases h1 : ox.dst = some t
    · have h2 : oy.dst ≠ some t := fun e => t2 t e h1
      unfold stepSt
      rw [setO_σ _ oy.dst _ _ h2, on_σ]
      unfold setO; rw [h1]; simp [St.set]
    · by_cases h2 : oy.dst = some t
      · unfold stepSt
        rw [setO_σ _ ox.dst _ _ h1, on_σ]
        unfold setO; rw [h2]; simp [St.set]
      · unfold stepSt
        rw [setO_σ _ ox.dst _ _ h1, on_σ, setO_σ _ oy.dst _ _ h2, on_σ, setO_σ _ oy.dst _ _ h2, on_σ, setO_σ _ ox.dst _ _ h1, on_σ]
  · unfold stepSt
    rw [setO_H, setO_H]
    by_cases hx : id ∈ cx.keys
    · have hy : id ∉ cy.keys := fun hy => (h.k1 id hy).2 hx
      rw [on_H_other cy.upd _ _ (by rw [hu]; exact hy), setO_H]
      exact on_H_mem _ _ _ _ (by rw [hu']; exact hx)
    · rw [on_H_other cx.upd _ _ (by rw [hu']; exact hx), setO_H]
      by_cases hy : id ∈ cy.keys
      · exact on_H_mem _ _ _ _ (by rw [hu]; exact hy)
      · rw [on_H_other _ _ _ (by rw [hu]; exact hy), on_H_other _ _ _ (by rw [hu]; exact hy), setO_H, on_H_other _ _ _ (by rw [hu']; exact hx)]
theorem looks_operand {o : Oper} {t : Nat} (h : Operand.tmp t ∈ o.op.operands.toList) : t ∈ o.looksAt ops :=
  List.mem_append_left _ (List.mem_filterMap.2 ⟨.tmp t, h, rfl⟩)
theorem looks_guard {o : Oper} {j : Nat} {want : Bool} {d : Nat} (h : o.guard = some (j, want)) (hd : (ops[j]?).bind (·.dst) = some d) : d ∈ o.looksAt ops := by
  unfold Oper.looksAt
  rw [h]
  simp only [List.mem_append]
  right
  rw [hd]; simp
/-- An operation's coming to what it comes to does not hang on one that it is apart from. -/
theorem Valid.congr {i : Nat} {o : Oper} {x : Oc} {s s' : St} (hv : Valid P nt ops orcs i o x s) (hσ : ∀ t ∈ o.looksAt ops, s'.σ t = s.σ t) (hH : ∀ id ∈ x.uses, s'.H id = s.H id) : Valid P nt ops orcs i o x s' where
  op := hv.op
  dst := hv.dst
  run := by
    have hrun := hv.run
    have hg : guardOf ops s'.σ o = guardOf ops s.σ o := guardOf_congr fun j want d h1 h2 => hσ d (looks_guard h1 h2)
    cases x with
    | skip => simp only at hrun ⊢; rw [hg]; exact hrun
    | ran out uses =>
      simp only at hrun ⊢
      obtain ⟨h1, h2, h3, args, h4, h5⟩ := hrun
      have hσ' : ∀ t, Operand.tmp t ∈ o.op.operands.toList → s'.σ t = s.σ t := fun t ht => hσ t (looks_operand ht)
      refine ⟨by rw [hg]; exact h1, ?_, h3, args, by rw [fetchOp_congr hσ']; exact h4, h5⟩
      rw [stepOut_congr hσ' h4 fun id hi => hH id (by simp only [Oc.uses]; rw [h5]; exact hi)]
      exact h2
theorem swap_valid {s : St} {i j : Nat} {oy ox : Oper} {cy cx : Oc} (h : Apart ops oy ox cy cx) (hy : Valid P nt ops orcs i oy cy s) (hx : Valid P nt ops orcs j ox cx (stepSt oy cy s)) :
    Valid P nt ops orcs j ox cx s ∧ Valid P nt ops orcs i oy cy (stepSt ox cx s) := by
  obtain ⟨t1, t2, t3⟩ := Oper.apart_spec h.tmps
  have hu : cy.upd.map (·.1) = cy.keys := by cases cy <;> rfl
  have hu' : cx.upd.map (·.1) = cx.keys := by cases cx <;> rfl
  refine ⟨hx.congr (fun t ht => ?_) fun id hi => ?_, hy.congr (fun t ht => ?_) fun id hi => ?_⟩
  · unfold stepSt
    rw [setO_σ _ _ _ _ (fun e => t1 t e ht), on_σ]
  · unfold stepSt
    rw [setO_H, on_H_other _ _ _ (by rw [hu]; exact fun hk => (h.k1 id hk).1 hi)]
  · unfold stepSt
    rw [setO_σ _ _ _ _ (fun e => t3 t e ht), on_σ]
  · unfold stepSt
    rw [setO_H, on_H_other _ _ _ (by rw [hu']; exact fun hk => h.k2 id hk hi)]
/-- What is fresh stays so behind an operation that does not speak of it. -/
theorem Fresh.step {s : St} {o : Oper} {x : Oc} {id : Nat} (h : Fresh s id) (h1 : id ∉ x.says) (h2 : id ∉ x.keys) : Fresh (stepSt o x s) id where
  blk := by
    unfold stepSt
    rw [setO_H, on_H_other _ _ _ (by cases x <;> exact h2)]
    exact h.blk
  env := fun t y hy => by
    unfold stepSt at hy
    by_cases ht : o.dst = some t
    · unfold setO at hy; rw [ht] at hy
      simp only [St.set, if_true] at hy
      cases x with
      | skip => simp only [Oc.val] at hy; injection hy with hy; subst hy; simp [AV.ids, AV.ids.idsOf]
      | ran out uses =>
        simp only [Oc.val] at hy
        intro hi
        exact h1 (by simp only [Oc.says]; rw [hy]; exact List.mem_append_left _ hi)
    · rw [setO_σ _ _ _ _ ht, on_σ] at hy
      exact h.env t y hy
  own := fun i B hB => by
    unfold stepSt at hB
    rw [setO_H] at hB
    rcases on_H_from _ _ _ _ hB with ⟨_, h3⟩ | ⟨_, y, hy, hyB⟩
    · exact h.own i B h3
    · cases x with
      | skip => simp [Oc.upd] at hy
      | ran out uses =>
        intro hi
        exact h1 (by
          simp only [Oc.says]
          refine List.mem_append_right _ (List.mem_flatMap.2 ⟨y, hy, ?_⟩)
          rw [hyB]; exact hi)
/-- What comes later does not speak of what is given out later still. -/
def Fwd (oc : Nat → Oc) (i j : Nat) : Prop := ∀ id ∈ (oc j).news, id ∉ (oc i).says ∧ id ∉ (oc i).keys
/-- In the text's order. -/
theorem ok_seq {pins : List Nat} (hnt : C.nt = nt) (hp : ∀ id, C.pin id ≠ none → id ∈ pins) {Q : Exit → Act → World → Prop} {s' : St} : ∀ (L : List Nat) (st : St) (a : Act) (w : World) (φ : Phi) (F : Nat → Prop), Sim C st a w φ F → Ok P nt ops orcs oc L st s' →
    FreshAll oc L st → L.Pairwise (Fwd oc) → (∀ i ∈ L, ∀ id ∈ (oc i).news, id ∉ pins) → (∀ a' w' φ' F', Sim C s' a' w' φ' F' → Q .normal a' w') → wpOps P ops Q L a w
  | [], st, a, w, φ, F, h, hok, _, _, _, hQ => by
    simp only [Ok] at hok; subst hok
    exact hQ _ _ _ _ h
  | i :: L, st, a, w, φ, F, h, hok, hf, hfw, hpin, hQ => by
    obtain ⟨o, hv, hok⟩ := hok
    rw [List.pairwise_cons] at hfw
    rw [wpOps_cons]
    refine valid_sound h hnt hv (fun id hi => ⟨hf i (by simp) id hi, ?_⟩) fun a' w' φ' F' hs => ok_seq hnt hp L _ a' w' φ' F' hs hok (fun j hj id hid => ?_) hfw.2 (fun j hj => hpin j (by simp [hj])) hQ
    · exact Classical.byContradiction fun hne => hpin i (by simp) id hi (hp id hne)
    · exact (hf j (by simp [hj]) id hid).step (hfw.1 j hj id hid).1 (hfw.1 j hj id hid).2
theorem bubble {s' : St} {i : Nat} {L2 : List Nat} : ∀ (L1 : List Nat) (s : St), Ok P nt ops orcs oc (L1 ++ i :: L2) s s' → (∀ y ∈ L1, ∀ oy oi, ops[y]? = some oy → ops[i]? = some oi → Apart ops oy oi (oc y) (oc i)) →
    ∃ o, Valid P nt ops orcs i o (oc i) s ∧ Ok P nt ops orcs oc (L1 ++ L2) (stepSt o (oc i) s) s'
  | [], s, h, _ => h
  | y :: L1, s, h, hap => by
    obtain ⟨oy, hy, h⟩ := h
    obtain ⟨oi, hi, h2⟩ := bubble L1 _ h fun z hz => hap z (by simp [hz])
    have hA := hap y (by simp) oy oi hy.op hi.op
    obtain ⟨q1, q2⟩ := swap_valid hA hy hi
    exact ⟨oi, q1, oy, q2, by rw [← swap_state hA]; exact h2⟩
/-- WHATEVER ORDER THE EDGES ALLOW. -/
theorem ok_any {pins : List Nat} (hnt : C.nt = nt) (hp : ∀ id, C.pin id ≠ none → id ∈ pins) {Q : Exit → Act → World → Prop} {s' : St}
    (hdep : ∀ j o, ops[j]? = some o → ∀ e ∈ o.after, Region.binds .any e = true → e.on < j)
    (hap : ∀ i j oi oj, i < j → ops[i]? = some oi → ops[j]? = some oj → (∀ e ∈ oj.after, Region.binds .any e = true → e.on ≠ i) → Apart ops oi oj (oc i) (oc j))
    (hfw : ∀ i j, i < j → j < ops.size → Fwd oc i j) (hpin : ∀ i, i < ops.size → ∀ id ∈ (oc i).news, id ∉ pins) (hQ : ∀ a' w' φ' F', Sim C s' a' w' φ' F' → Q .normal a' w') :
    ∀ (n : Nat) (L : List Nat) (listed : Array Bool) (st : St) (a : Act) (w : World) (φ : Phi) (F : Nat → Prop), L.length = n → L.Pairwise (· < ·) → listed.size = ops.size → (∀ i, i ∈ L ↔ listed.getD i true = false) →
      Sim C st a w φ F → Ok P nt ops orcs oc L st s' → FreshAll oc L st → wpAny P .any ops Q n listed a w
  | 0, L, listed, st, a, w, φ, F, hn, _, hsz, hL, h, hok, _ => by
    obtain rfl : L = [] := List.eq_nil_of_length_eq_zero hn
    simp only [Ok] at hok; subst hok
    refine ⟨List.eq_nil_iff_forall_not_mem.2 fun i hi => ?_, hQ _ _ _ _ h⟩
    have := (hL i).2 (mem_ready.1 hi).1
    cases this
  | n + 1, L, listed, st, a, w, φ, F, hn, hso, hsz, hL, h, hok, hf => by
    have hlt : ∀ i ∈ L, i < ops.size := fun i hi => by
      have := (hL i).1 hi
      rcases Nat.lt_or_ge i listed.size with h1 | h1
      · omega
      · simp [Array.getElem?_eq_none h1] at this
    have hgot : ∀ i, i ∉ L → i < ops.size → listed.getD i false = true := fun i hi hs => by
      have h1 : listed.getD i true ≠ false := fun e => hi ((hL i).2 e)
      simp only [Array.getD_eq_getD_getElem?] at h1 ⊢
      have : i < listed.size := by omega
      simp [this] at h1 ⊢
      exact h1
    refine ⟨fun hnil => ?_, fun i hi => ?_⟩
    · exfalso
      match L, hn with
      | x :: L', _ =>
        have hx : x ∈ Region.ready .any ops listed := by
          obtain ⟨o, ho⟩ : ∃ o, ops[x]? = some o := ⟨_, Array.getElem?_eq_getElem (hlt x (by simp))⟩
          refine mem_ready.2 ⟨(hL x).1 (by simp), o, ho, fun e he hb => hgot _ (fun hm => ?_) ?_⟩
          · have h1 := hdep x o ho e he hb
            rcases List.mem_cons.1 hm with hm | hm
            · omega
            · have := (List.pairwise_cons.1 hso).1 _ hm; omega
          · have := hdep x o ho e he hb
            have := hlt x (by simp)
            omega
        rw [hnil] at hx; cases hx
    · obtain ⟨hun, o, ho, hall⟩ := mem_ready.1 hi
      have him := (hL i).2 hun
      obtain ⟨L1, L2, rfl⟩ := List.append_of_mem him
      have hy1 : ∀ y ∈ L1, y < i := fun y hy => (List.pairwise_append.1 hso).2.2 y hy i (by simp)
      have hy2 : ∀ y ∈ L2, i < y := fun y hy => (List.pairwise_cons.1 (List.pairwise_append.1 hso).2.1).1 y hy
      have hapy : ∀ y ∈ L1, ∀ oy oi, ops[y]? = some oy → ops[i]? = some oi → Apart ops oy oi (oc y) (oc i) := fun y hy oy oi h1 h2 => by
        refine hap y i oy oi (hy1 y hy) h1 h2 fun e he hb heq => ?_
        rw [ho] at h2; injection h2 with h2; subst h2
        have h3 := hall e he hb
        rw [heq] at h3
        have h4 := (hL y).1 (by simp [hy])
        have h5 := hlt y (by simp [hy])
        simp only [Array.getD_eq_getD_getElem?] at h3 h4
        have : y < listed.size := by omega
        simp [this] at h3 h4
        rw [h3] at h4; cases h4
      obtain ⟨oi, hv, hok'⟩ := bubble L1 st hok hapy
      refine valid_sound h hnt hv (fun id hid => ⟨hf i him id hid, ?_⟩) fun a' w' φ' F' hs => ?_
      · exact Classical.byContradiction fun hne => hpin i (hlt i him) id hid (hp id hne)
      · refine ok_any hnt hp hdep hap hfw hpin hQ n (L1 ++ L2) _ _ a' w' φ' F' (by simp at hn ⊢; omega) ?_ (by simpa using hsz) (fun k => ?_) hs hok' fun k hk id hid => ?_
        · rw [List.pairwise_append] at hso ⊢
          exact ⟨hso.1, (List.pairwise_cons.1 hso.2.1).2, fun x hx y hy => hso.2.2 x hx y (by simp [hy])⟩
        · by_cases hki : k = i
          · subst hki
            have hk1 : k ∉ L1 := fun hm => by have := hy1 k hm; omega
            have hk2 : k ∉ L2 := fun hm => by have := hy2 k hm; omega
            have hks : k < listed.size := by have := hlt k him; omega
            simp [hk1, hk2, hks]
          · rw [getD_set_ne true (Ne.symm hki), ← hL k]
            simp [hki]
        · have hkm : k ∈ L1 ++ i :: L2 := by
            rcases List.mem_append.1 hk with hk | hk <;> simp [hk]
          have hfr := hf k hkm id hid
          rcases List.mem_append.1 hk with hk | hk
          · obtain ⟨ok, hok⟩ : ∃ o, ops[k]? = some o := ⟨_, Array.getElem?_eq_getElem (hlt k hkm)⟩
            have hA := hapy k hk ok oi hok hv.op
            exact hfr.step (hA.n1 id hid).1 (hA.n1 id hid).2
          · have hF := hfw i k (hy2 k hk) (hlt k hkm) id hid
            exact hfr.step hF.1 hF.2
end
end Go.AM
end
section
namespace Go.AM
open Go Go.RowKit
abbrev Env := List (Nat × AV)
def Env.get : Env → Nat → Option AV
  | [], _ => none
  | (i, x) :: r, t => if Nat.beq i t then some x else Env.get r t
def Env.del : Env → Nat → Env
  | [], _ => []
  | (i, x) :: r, t => if Nat.beq i t then Env.del r t else (i, x) :: Env.del r t
def Env.put (σ : Env) (d : Nat) : Option AV → Env
  | some x => (d, x) :: σ.del d
  | none => σ.del d
def AHeap.del : AHeap → Nat → AHeap
  | [], _ => []
  | (i, B) :: r, id => if Nat.beq i id then AHeap.del r id else (i, B) :: AHeap.del r id
def AHeap.put (H : AHeap) (id : Nat) : Option ABlk → AHeap
  | some B => (id, B) :: H.del id
  | none => H.del id
def AHeap.on : AHeap → List (Nat × Option ABlk) → AHeap
  | H, [] => H
  | H, (id, B) :: r => AHeap.on (H.put id B) r
structure LS where
  σ : Env
  H : AHeap
def LS.st (s : LS) : St := ⟨s.σ.get, s.H.get⟩
theorem env_get_del : ∀ (σ : Env) (d t : Nat), (σ.del d).get t = if t = d then none else σ.get t
  | [], d, t => by simp [Env.del, Env.get]
  | (i, x) :: r, d, t => by
    simp only [Env.del]
    by_cases h : i = d
    · rw [if_pos (by rw [Nat.beq_eq]; exact h), env_get_del r]
      by_cases h2 : t = d
      · simp [h2]
      · rw [if_neg h2, if_neg h2, Env.get, if_neg (by rw [Nat.beq_eq]; omega)]
    · rw [if_neg (by rw [Nat.beq_eq]; exact h), Env.get, Env.get, env_get_del r]
      by_cases h2 : i = t
      · subst h2; rw [if_pos (by rw [Nat.beq_eq]), if_neg h, if_pos (by rw [Nat.beq_eq])]
      · have hb : ¬ (Nat.beq i t = true) := by rw [Nat.beq_eq]; exact h2
        simp only [if_neg hb]
theorem env_get_put (σ : Env) (d t : Nat) (x : Option AV) : (σ.put d x).get t = if t = d then x else σ.get t := by
  cases x with
  | none => exact env_get_del σ d t
  | some x =>
    simp only [Env.put, Env.get]
    by_cases h : d = t
    · subst h; rw [if_pos (by rw [Nat.beq_eq]), if_pos rfl]
    · rw [if_neg (by rw [Nat.beq_eq]; exact h), env_get_del, if_neg (Ne.symm h), if_neg (Ne.symm h)]
theorem heap_get_del : ∀ (H : AHeap) (d t : Nat), AHeap.get (AHeap.del H d) t = if t = d then none else AHeap.get H t
  | [], d, t => by simp [AHeap.del, AHeap.get]
  | (i, x) :: r, d, t => by
    simp only [AHeap.del]
    by_cases h : i = d
    · rw [if_pos (by rw [Nat.beq_eq]; exact h), heap_get_del r]
      by_cases h2 : t = d
      · simp [h2]
      · rw [if_neg h2, if_neg h2, AHeap.get, if_neg (by rw [Nat.beq_eq]; omega)]
    · rw [if_neg (by rw [Nat.beq_eq]; exact h), AHeap.get, AHeap.get, heap_get_del r]
      by_cases h2 : i = t
      · subst h2; rw [if_pos (by rw [Nat.beq_eq]), if_neg h, if_pos (by rw [Nat.beq_eq])]
      · have hb : ¬ (Nat.beq i t = true) := by rw [Nat.beq_eq]; exact h2
        simp only [if_neg hb]
theorem heap_get_put (H : AHeap) (d t : Nat) (x : Option ABlk) : (H.put d x).get t = if t = d then x else H.get t := by
  cases x with
  | none => exact heap_get_del H d t
  | some x =>
    simp only [AHeap.put, AHeap.get]
    by_cases h : d = t
    · subst h; rw [if_pos (by rw [Nat.beq_eq]), if_pos rfl]
    · rw [if_neg (by rw [Nat.beq_eq]; exact h), heap_get_del, if_neg (Ne.symm h), if_neg (Ne.symm h)]
theorem heap_on : ∀ (l : List (Nat × Option ABlk)) (H : AHeap) (σ : Nat → Option AV), (St.mk σ (AHeap.on H l).get) = (St.mk σ H.get).on l
  | [], _, _ => rfl
  | (id, B) :: r, H, σ => by
    simp only [AHeap.on, St.on]
    rw [heap_on r]
    congr 1
    simp only [St.blk, St.mk.injEq, true_and]
    funext i
    exact heap_get_put H id i B
def LS.step (o : Oper) (oc : Oc) (s : LS) : LS := ⟨match o.dst with | some d => s.σ.put d oc.val | none => s.σ, s.H.on oc.upd⟩
theorem LS.step_st (o : Oper) (oc : Oc) (s : LS) : (s.step o oc).st = stepSt o oc s.st := by
  unfold LS.step LS.st stepSt
  have h := heap_on oc.upd s.H s.σ.get
  rw [← h]
  cases o.dst with
  | none => rfl
  | some d =>
    simp only [setO, St.set, St.mk.injEq, and_true]
    funext t
    exact env_get_put s.σ d t oc.val
abbrev Orcs := List (Nat × Orc)
def Orcs.at : Orcs → Nat → Orc
  | [], _ => {}
  | (i, x) :: r, t => if Nat.beq i t then x else Orcs.at r t
def ltB (nt : Nat) : Option Nat → Bool
  | some d => Nat.ble (d + 1) nt
  | none => true
def runOps (P : Program) (nt : Nat) (ops : Array Oper) (orcs : Orcs) : List Oper → Nat → LS → Option (List Oc × LS × Prop)
  | [], _, s => some ([], s, True)
  | o :: os, i, s =>
    if ltB nt o.dst then
    match guardOf ops s.σ.get o with
    | none => none
    | some false => match runOps P nt ops orcs os (i + 1) (s.step o .skip) with
      | some (l, s', C) => some (.skip :: l, s', C)
      | none => none
    | some true => match fetchOp s.σ.get o.op, stepOut P o (orcs.at i) s.σ.get s.H.get with
      | some args, some out =>
        match runOps P nt ops orcs os (i + 1) (s.step o (.ran out (AV.ids.idsOf args ++ (orcs.at i).fp))) with
        | some (l, s', C) => some (.ran out (AV.ids.idsOf args ++ (orcs.at i).fp) :: l, s', out.cond ∧ C)
        | none => none
      | _, _ => none
    else none
/-- None of the numbers is among those. -/
def noneOf (l : List Nat) : List Nat → Bool
  | [] => true
  | i :: is => !memB i l && noneOf l is
theorem noneOf_iff {l : List Nat} : ∀ {is : List Nat}, noneOf l is = true → ∀ i ∈ is, i ∉ l
  | i :: is, h, j, hj => by
    simp only [noneOf, Bool.and_eq_true, Bool.not_eq_true'] at h
    rcases List.mem_cons.1 hj with rfl | hj
    · intro hm; have := memB_iff.2 hm; rw [h.1] at this; cases this
    · exact noneOf_iff h.2 j hj
def LS.ids (s : LS) : List Nat := s.σ.flatMap (fun x => x.2.ids) ++ s.H.flatMap (fun x => x.1 :: x.2.ids)
theorem env_get_mem : ∀ {σ : Env} {t : Nat} {x : AV}, σ.get t = some x → ∃ y ∈ σ, y.2 = x
  | (i, x') :: r, t, x, h => by
    simp only [Env.get] at h
    split at h
    · injection h with h; exact ⟨_, List.mem_cons_self, h⟩
    · obtain ⟨y, h1, h2⟩ := env_get_mem h
      exact ⟨y, List.mem_cons_of_mem _ h1, h2⟩
theorem LS.fresh {s : LS} {id : Nat} (h : id ∉ s.ids) : Fresh s.st id := by
  unfold LS.ids at h
  rw [List.mem_append, not_or] at h
  refine ⟨?_, fun t x hx hi => h.1 ?_, fun i B hB hi => h.2 ?_⟩
  · refine get_none_of_keys fun hm => h.2 ?_
    obtain ⟨y, h1, h2⟩ := List.mem_map.1 hm
    exact List.mem_flatMap.2 ⟨y, h1, by rw [h2]; simp⟩
  · obtain ⟨y, h1, h2⟩ := env_get_mem hx
    exact List.mem_flatMap.2 ⟨y, h1, by rw [h2]; exact hi⟩
  · obtain ⟨y, h1, h2⟩ := get_mem hB
    exact List.mem_flatMap.2 ⟨y, h1, by rw [h2]; exact List.mem_cons_of_mem _ hi⟩
def fwdB : List Oc → Bool
  | [] => true
  | x :: l => (l.all fun y => noneOf (x.says ++ x.keys) y.news) && fwdB l
def depsB : List Oper → Nat → Bool
  | [], _ => true
  | o :: os, i => (o.after.toList.all fun e => !Region.binds .any e || Nat.ble (e.on + 1) i) && depsB os (i + 1)
def apartB (ops : Array Oper) (oy ox : Oper) (cy cx : Oc) : Bool :=
  oy.apart ops ox && noneOf (cx.uses ++ cx.keys) cy.keys && noneOf cy.uses cx.keys && noneOf (cx.says ++ cx.keys) cy.news
def waits (o : Oper) (i : Nat) : Bool := o.after.toList.any fun e => Region.binds .any e && Nat.beq e.on i
/-- 'oy', number i, against all that come later. -/
def apartAll (ops : Array Oper) (oy : Oper) (cy : Oc) (i : Nat) : List Oper → List Oc → Bool
  | ox :: os, cx :: cs => (waits ox i || apartB ops oy ox cy cx) && apartAll ops oy cy i os cs
  | _, _ => true
def freeB (ops : Array Oper) : Nat → List Oper → List Oc → Bool
  | i, oy :: os, cy :: cs => apartAll ops oy cy i os cs && freeB ops (i + 1) os cs
  | _, _, _ => true
def evalRegion (P : Program) (nt : Nat) (pins : List Nat) (ops : Array Oper) (draw : Bool) (orcs : Orcs) (s : LS) : Option (LS × Prop) :=
  match runOps P nt ops orcs ops.toList 0 s with
  | none => none
  | some (ocs, s', C) =>
    let news := ocs.flatMap Oc.news
    if noneOf (s.ids ++ pins) news && fwdB ocs && (!draw || (depsB ops.toList 0 && freeB ops 0 ops.toList ocs)) then some (s', C) else none
section
variable {P : Program} {nt : Nat} {ops : Array Oper} {orcs : Orcs}
theorem runOps_ok : ∀ (os : List Oper) (i : Nat) (s s' : LS) (l : List Oc) (C : Prop), runOps P nt ops orcs os i s = some (l, s', C) → C → (∀ j, os[j]? = ops[i + j]?) →
    l.length = os.length ∧ ∀ (oc : Nat → Oc), (∀ j, j < l.length → oc (i + j) = l.getD j .skip) → Ok P nt ops orcs.at oc (List.range' i os.length) s.st s'.st
  | [], i, s, s', l, C, h, _, _ => by
    simp only [runOps, Option.some.injEq, Prod.mk.injEq] at h
    obtain ⟨rfl, rfl, _⟩ := h
    exact ⟨rfl, fun oc _ => rfl⟩
  | o :: os, i, s, s', l, C, h, hC, ho => by
    simp only [runOps] at h
    split at h
    case isFalse => cases h
    rename_i hlt
    have ho0 : ops[i]? = some o := by have := ho 0; simpa using this.symm
    have hos : ∀ j, os[j]? = ops[i + 1 + j]? := fun j => by have := ho (j + 1); simpa [Nat.add_assoc, Nat.add_comm 1 j] using this
    have hdst : ∀ d, o.dst = some d → d < nt := fun d hd => by
      unfold ltB at hlt; rw [hd] at hlt
      exact Nat.le_of_ble_eq_true hlt
    split at h
    · cases h
    · rename_i hg
      split at h
      · rename_i l' s1 C1 hr
        simp only [Option.some.injEq, Prod.mk.injEq] at h
        obtain ⟨rfl, rfl, rfl⟩ := h
        obtain ⟨hl, hk⟩ := runOps_ok os (i + 1) _ _ _ _ hr hC hos
        refine ⟨by simp [hl], fun oc hoc => ?_⟩
        rw [List.length_cons, List.range'_succ]
        have h0 : oc i = .skip := by have := hoc 0 (by simp); simpa using this
        refine ⟨o, ⟨ho0, hdst, ?_⟩, ?_⟩
        · rw [h0]; exact hg
        · rw [h0, ← LS.step_st]
          exact hk oc fun j hj => by have := hoc (j + 1) (by simpa using hj); simpa [Nat.add_assoc, Nat.add_comm 1 j] using this
      · cases h
    · rename_i hg
      split at h
      · rename_i args out hf hs
        split at h
        · rename_i l' s1 C1 hr
          simp only [Option.some.injEq, Prod.mk.injEq] at h
          obtain ⟨rfl, rfl, rfl⟩ := h
          obtain ⟨hl, hk⟩ := runOps_ok os (i + 1) _ _ _ _ hr hC.2 hos
          refine ⟨by simp [hl], fun oc hoc => ?_⟩
          rw [List.length_cons, List.range'_succ]
          have h0 : oc i = .ran out (AV.ids.idsOf args ++ (orcs.at i).fp) := by have := hoc 0 (by simp); simpa using this
          refine ⟨o, ⟨ho0, hdst, ?_⟩, ?_⟩
          · rw [h0]; exact ⟨hg, hs, hC.1, args, hf, rfl⟩
          · rw [h0, ← LS.step_st]
            exact hk oc fun j hj => by have := hoc (j + 1) (by simpa using hj); simpa [Nat.add_assoc, Nat.add_comm 1 j] using this
        · cases h
      · cases h
theorem fwdB_get : ∀ {l : List Oc}, fwdB l = true → ∀ i j, i < j → j < l.length → Fwd (fun k => l.getD k .skip) i j
  | x :: l, h, i, j, hij, hj => by
    simp only [fwdB, Bool.and_eq_true, List.all_eq_true] at h
    match i, j with
    | 0, j + 1 =>
      have hjl : j < l.length := by simpa using hj
      intro id hid
      have hg : (x :: l).getD (j + 1) Oc.skip = l[j] := by simp [hjl]
      simp only [hg] at hid
      have := noneOf_iff (h.1 _ (List.getElem_mem hjl)) id hid
      rw [List.mem_append, not_or] at this
      simpa using this
    | i + 1, j + 1 =>
      have := fwdB_get h.2 i j (by omega) (by simpa using hj)
      intro id hid
      have := this id (by simpa using hid)
      simpa using this
theorem depsB_get : ∀ (os : List Oper) (i : Nat), depsB os i = true → ∀ j o, os[j]? = some o → ∀ e ∈ o.after, Region.binds .any e = true → e.on < i + j
  | [], i, _, j, o', ho, _, _, _ => by simp at ho
  | o :: os, i, h, 0, o', ho, e, he, hb => by
    simp only [depsB, Bool.and_eq_true, List.all_eq_true] at h
    simp at ho; subst ho
    have h3 := h.1 e (by simpa using he)
    rw [hb] at h3
    simp only [Bool.not_true, Bool.false_or] at h3
    exact Nat.le_of_ble_eq_true h3
  | o :: os, i, h, j + 1, o', ho, e, he, hb => by
    simp only [depsB, Bool.and_eq_true] at h
    have h3 := depsB_get os (i + 1) h.2 j o' (by simpa using ho) e he hb
    rw [Nat.add_assoc, Nat.add_comm 1 j] at h3; exact h3
theorem apartB_spec {oy ox : Oper} {cy cx : Oc} (h : apartB ops oy ox cy cx = true) : Apart ops oy ox cy cx := by
  simp only [apartB, Bool.and_eq_true] at h
  obtain ⟨⟨⟨h1, h2⟩, h3⟩, h4⟩ := h
  refine ⟨h1, fun id hi => ?_, fun id hi => noneOf_iff h3 id hi, fun id hi => ?_⟩
  · have := noneOf_iff h2 id hi
    rw [List.mem_append, not_or] at this; exact this
  · have := noneOf_iff h4 id hi
    rw [List.mem_append, not_or] at this; exact this
theorem apartAll_get {oy : Oper} {cy : Oc} {i : Nat} : ∀ {os : List Oper} {cs : List Oc}, apartAll ops oy cy i os cs = true → cs.length = os.length → ∀ j ox, os[j]? = some ox → waits ox i = false → Apart ops oy ox cy (cs.getD j .skip)
  | o :: os, c :: cs, h, hl, j, ox, ho, hw => by
    simp only [apartAll, Bool.and_eq_true, Bool.or_eq_true] at h
    match j with
    | 0 =>
      simp at ho; subst ho
      rcases h.1 with h1 | h1
      · rw [hw] at h1; cases h1
      · simpa using apartB_spec h1
    | j + 1 =>
      have := apartAll_get h.2 (by simpa using hl) j ox (by simpa using ho) hw
      simpa using this
  | [], _, _, _, j, ox, ho, _ => by simp at ho
  | _ :: _, [], _, hl, _, _, _, _ => by simp at hl
theorem freeB_get : ∀ {os : List Oper} {cs : List Oc} {k : Nat}, freeB ops k os cs = true → cs.length = os.length → ∀ i j oi oj, i < j → os[i]? = some oi → os[j]? = some oj → waits oj (k + i) = false → Apart ops oi oj (cs.getD i .skip) (cs.getD j .skip)
  | o :: os, c :: cs, k, h, hl, i, j, oi, oj, hij, ho, ho', hw => by
    simp only [freeB, Bool.and_eq_true] at h
    match i, j with
    | 0, j + 1 =>
      simp at ho; subst ho
      have := apartAll_get h.1 (by simpa using hl) j oj (by simpa using ho') (by simpa using hw)
      simpa using this
    | i + 1, j + 1 =>
      have := freeB_get h.2 (by simpa using hl) i j oi oj (by omega) (by simpa using ho) (by simpa using ho') (by rw [show k + 1 + i = k + (i + 1) by omega]; exact hw)
      simpa using this
  | [], _, _, _, _, i, _, _, _, _, ho, _, _ => by simp at ho
  | _ :: _, [], _, _, hl, _, _, _, _, _, _, _, _ => by simp at hl
theorem region_sound {C : Ctx} {a : Act} {w : World} {φ : Phi} {F : Nat → Prop} {pins : List Nat} (hm : P.follows .mixedOrders = true) (hnt : C.nt = nt) (hp : ∀ id, C.pin id ≠ none → id ∈ pins) {draw : Bool} {s s' : LS} {cond : Prop}
    (he : evalRegion P nt pins ops draw orcs s = some (s', cond)) (hc : cond) (h : Sim C s.st a w φ F) {id : Nat} {Q : Exit → Act → World → Prop} (hQ : ∀ a' w' φ' F', Sim C s'.st a' w' φ' F' → Q .normal a' w') :
    (Code.region id ops draw).wp P Q a w := by
  unfold evalRegion at he
  split at he
  · cases he
  rename_i ocs s1 C1 hr
  simp only at he
  split at he
  case isFalse => cases he
  rename_i hchk
  simp only [Option.some.injEq, Prod.mk.injEq] at he
  obtain ⟨rfl, rfl⟩ := he
  simp only [Bool.and_eq_true] at hchk
  obtain ⟨⟨hn, hfw⟩, hd⟩ := hchk
  obtain ⟨hl, hok⟩ := runOps_ok ops.toList 0 s s1 ocs C1 hr hc (fun j => by simp)
  have hok' := hok (fun k => ocs.getD k .skip) (fun j hj => by simp)
  have hsz : ocs.length = ops.size := by rw [hl]; exact Array.length_toList
  rw [Array.length_toList] at hok'
  rw [← List.range_eq_range'] at hok'
  have hnew : ∀ i, i < ops.size → ∀ id ∈ (ocs.getD i .skip).news, id ∉ s.ids ∧ id ∉ pins := fun i hi id hid => by
    have hil : i < ocs.length := by omega
    have hm : id ∈ ocs.flatMap Oc.news := List.mem_flatMap.2 ⟨ocs[i], List.getElem_mem hil, by simpa [hil] using hid⟩
    have := noneOf_iff hn id hm
    rw [List.mem_append, not_or] at this
    exact this
  have hfresh : FreshAll (fun k => ocs.getD k .skip) (List.range ops.size) s.st := fun j hj id hid => LS.fresh (hnew j (List.mem_range.1 hj) id hid).1
  have hfwd : ∀ i j, i < j → j < ops.size → Fwd (fun k => ocs.getD k .skip) i j := fun i j hij hj => fwdB_get hfw i j hij (by omega)
  cases draw with
  | false =>
    refine wp_region (ok_seq hnt hp (List.range ops.size) s.st a w φ F h hok' hfresh ?_ (fun i hi id hid => (hnew i (List.mem_range.1 hi) id hid).2) hQ)
    rw [List.pairwise_iff_getElem]
    intro i j hi hj hij
    simp only [List.length_range] at hi hj
    simp only [List.getElem_range]
    exact hfwd i j hij hj
  | true =>
    simp only [Bool.not_true, Bool.false_or, Bool.and_eq_true] at hd
    refine wp_region_any hm ?_
    refine ok_any (oc := fun k => ocs.getD k .skip) hnt hp (fun j o ho e he hb => ?_) (fun i j oi oj hij hoi hoj hno => ?_) hfwd (fun i hi id hid => (hnew i hi id hid).2) hQ ops.size (List.range ops.size) _ s.st a w.drew φ F (by simp) List.pairwise_lt_range (by simp) (fun i => ?_) h.drew hok' hfresh
    · have := depsB_get _ _ hd.1 j o (by simpa using ho) e he hb
      omega
    · refine freeB_get hd.2 (by simpa using hl) i j oi oj hij (by simpa using hoi) (by simpa using hoj) ?_
      cases hw : waits oj (0 + i)
      · rfl
      · unfold waits at hw
        simp only [List.any_eq_true, Bool.and_eq_true, Nat.beq_eq] at hw
        obtain ⟨e, h1, h2, h3⟩ := hw
        exact absurd (by omega) (hno e (by simpa using h1) h2)
    · rw [List.mem_range]
      by_cases hi : i < ops.size <;> simp [hi]
end
end Go.AM
end
