/- Ranging over a map of pure data, in whatever order: the map's block is held to its entries (ptx), the iterator's block is known whole (obj). -/
import Derived.Maps.RangeRun
import Derived.Test.YtijdlphadhpabaaA8
import Derived.Test.YtijdlphadhpabaaA7
section
namespace Go.AM
open Go Go.RowKit Go.ChangeMaps
section
variable {P : Program} {nt : Nat} {ops : Array Oper} {orcs : Orcs}
/-- The operations from number k on. -/
def evalTail (P : Program) (nt : Nat) (pins : List Nat) (ops : Array Oper) (k : Nat) (orcs : Orcs) (s : LS) : Option (LS × Prop) :=
  match runOps P nt ops orcs (ops.toList.drop k) k s with
  | none => none
  | some (ocs, s', C) => if noneOf (s.ids ++ pins) (ocs.flatMap Oc.news) && fwdB ocs then some (s', C) else none
def evalTailS (P : Program) (nt : Nat) (pins : List Nat) (ops : Array Oper) (k : Nat) (orcs : Orcs) (gs : List Gh) (s : LS) : Option LS :=
  match evalTail P nt pins ops k orcs s with
  | some (s1, _) => runGh pins gs s1
  | none => none
def condTail (P : Program) (nt : Nat) (pins : List Nat) (ops : Array Oper) (k : Nat) (orcs : Orcs) (gs : List Gh) (s : LS) : Prop :=
  match evalTail P nt pins ops k orcs s with
  | some (s1, c) => c ∧ condGh pins gs s1
  | none => False
theorem tail_sound {C : Ctx} {a : Act} {w : World} {φ : Phi} {F : Nat → Prop} {pins : List Nat} (hnt : C.nt = nt) (hp : ∀ id, C.pin id ≠ none → id ∈ pins) (hG : pins = [] → ∀ b, ¬ C.G b) {k : Nat} {gs : List Gh} {s s' : LS}
    (he : evalTailS P nt pins ops k orcs gs s = some s') (hc : condTail P nt pins ops k orcs gs s) (h : Sim C s.st a w φ F) {Q : Exit → Act → World → Prop} (hQ : ∀ a' w' φ' F', Sim C s'.st a' w' φ' F' → Q .normal a' w') :
    wpOps P ops Q (List.range' k (ops.size - k)) a w := by
  unfold evalTailS at he
  unfold condTail at hc
  split at he
  case h_2 => cases he
  rename_i s1 C1 hev
  rw [hev] at hc
  unfold evalTail at hev
  split at hev
  · cases hev
  rename_i ocs s2 C2 hr
  split at hev
  case isFalse => cases hev
  rename_i hchk
  simp only [Option.some.injEq, Prod.mk.injEq] at hev
  obtain ⟨rfl, rfl⟩ := hev
  simp only [Bool.and_eq_true] at hchk
  obtain ⟨hn, hfw⟩ := hchk
  have hlen : (ops.toList.drop k).length = ops.size - k := by simp
  obtain ⟨hl, hok⟩ := runOps_ok' (ops.toList.drop k) k s s2 ocs C2 hr hc.1 (fun j hj => by rw [List.getElem?_drop]; simp)
  have hok' := hok (fun i => ocs.getD (i - k) .skip) (fun j hj => by simp)
  rw [hlen] at hl hok'
  have hmem : ∀ i, i ∈ List.range' k (ops.size - k) → i - k < ocs.length := fun i hi => by
    rw [List.mem_range'_1] at hi; omega
  have hnew : ∀ i, i < ocs.length → ∀ id ∈ (ocs.getD i .skip).news, id ∉ s.ids ∧ id ∉ pins := fun i hil id hid => by
    have hm : id ∈ ocs.flatMap Oc.news := List.mem_flatMap.2 ⟨ocs[i], List.getElem_mem hil, by simpa [hil] using hid⟩
    have := noneOf_iff hn id hm
    rw [List.mem_append, not_or] at this
    exact this
  refine ok_seq hnt hp (List.range' k (ops.size - k)) s.st a w φ F h hok' (fun j hj id hid => LS.fresh (hnew _ (hmem j hj) id hid).1) ?_ (fun i hi id hid => (hnew _ (hmem i hi) id hid).2) fun a' w' φ' F' hs' => ?_
  · rw [List.pairwise_iff_getElem]
    intro i j hi hj hij
    simp only [List.length_range'] at hi hj
    simp only [List.getElem_range', Nat.one_mul]
    have := fwdB_get hfw i j hij (by omega)
    unfold Fwd at this ⊢
    simpa using this
  · obtain ⟨φ'', F'', h6⟩ := runGh_sound hp hG he hc.2 hs'
    exact hQ a' w' φ'' F'' h6
end
section
variable {P : Program} {nt : Nat} {pins : List Nat} {Q : Exit → LS → Prop}
/-- A loop by a relation and a measure; the round may end in more than one way. -/
theorem awp_loopR {S : Type} (St : S → LS) (μ : S → Nat) {c : Code} (hb : ∀ s, awp P nt pins c (St s) (fun e s' => (e = .normal ∧ ∃ s1, μ s1 < μ s ∧ s' = St s1) ∨ (e ≠ .normal ∧ Q e s'))) (s0 : S) : awp P nt pins (.loop c) (St s0) Q := by
  intro C a w φ F h1 h2 h3 h4
  refine wp_loop_rounds (μ s0 + 1) ?_
  have key : ∀ (n : Nat) (s : S) (a : Act) (w : World) (φ : Phi) (F : Nat → Prop), μ s < n → Sim C (St s).st a w φ F → Code.rounds P c (AQ C Q) n a w := by
    intro n
    induction n with
    | zero => intro s a w φ F hs; exact absurd hs (Nat.not_lt_zero _)
    | succ n ih =>
      intro s a w φ F hs hsim
      rw [rounds_succ]
      refine wp_mono (hb s C a w φ F h1 h2 h3 hsim) ?_
      rintro e a' w' ⟨s', φ', F', hq, hs'⟩
      rcases hq with ⟨rfl, s1, hlt, rfl⟩ | ⟨hne, hq⟩
      · exact ih s1 a' w' φ' F' (by omega) hs'
      · cases e with
        | normal => exact absurd rfl hne
        | _ => exact ⟨s', φ', F', hq, hs'⟩
  exact key (μ s0 + 1) s0 a w φ F (Nat.lt_succ_self _) h4
theorem ls_put (s : LS) (d : Nat) (x : Option AV) : (LS.mk (s.σ.put d x) s.H).st = s.st.set d x := put_st_σ s d x
theorem ls_blk (s : LS) (id : Nat) (B : Option ABlk) : (LS.mk s.σ (s.H.put id B)).st = s.st.blk id B := put_st_H s id B
theorem map_at {C : Ctx} {s : LS} {a : Act} {w : World} {φ : Phi} {F : Nat → Prop} (h : Sim C s.st a w φ F) {t id : Nat} {B : ABlk} (ht : s.σ.get t = some (.map id)) (hB : s.H.get id = some B) : ∃ b N, φ id = some (some (b, N)) ∧ a.eval (.tmp t) = .map (some b) ∧ BR φ F w b N B := by
  obtain ⟨y, hy⟩ := h.live (show s.st.H id = some B from hB)
  obtain ⟨b, N, rfl, e⟩ := (h.env t _ ht : VR φ F w _ _) y hy
  exact ⟨b, N, hy, e, (h.own_at (show s.st.H id = some B from hB) hy).1⟩
theorem ptr_at {C : Ctx} {s : LS} {a : Act} {w : World} {φ : Phi} {F : Nat → Prop} (h : Sim C s.st a w φ F) {t id off : Nat} {B : ABlk} (ht : s.σ.get t = some (.ptr id off)) (hB : s.H.get id = some B) : ∃ b N, φ id = some (some (b, N)) ∧ a.eval (.tmp t) = .pointer (some ⟨b, off, none⟩) ∧ BR φ F w b N B := by
  obtain ⟨y, hy⟩ := h.live (show s.st.H id = some B from hB)
  obtain ⟨b, N, rfl, e⟩ := (h.env t _ ht : VR φ F w _ _) y hy
  exact ⟨b, N, hy, e, (h.own_at (show s.st.H id = some B from hB) hy).1⟩
theorem fresh_of {s : LS} {it : Nat} (h : noneOf (s.ids ++ pins) [it] = true) : it ∉ s.ids ∧ it ∉ pins := by
  have := noneOf_iff h it (by simp)
  rwa [List.mem_append, not_or] at this
/-- 'range m'. -/
theorem awp_rangeMap {rid d0 d1 tm t kt et mid ag it : Nat} {ops : Array Oper} {s : LS} {m : List (List Int × PV)} {o0 o1 : Oper} (hsz : ops.size = 2) (hu : P.underlying t = some (.map kt et))
    (ho0 : ops[0]? = some o0 ∧ o0.guard = none ∧ o0.dst = some d0 ∧ o0.op = .move (.tmp tm)) (ho1 : ops[1]? = some o1 ∧ o1.guard = none ∧ o1.dst = some d1 ∧ o1.op = .range t (.tmp d0))
    (hlt : d0 < nt ∧ d1 < nt) (hm : s.σ.get tm = some (.map mid)) (hB : s.H.get mid = some (.ptab ag m)) (hne : it ≠ mid) (hnew : it ∉ s.ids ∧ it ∉ pins)
    (hd : ∀ es clock b0, es.size = m.length → Stamps es.toList clock → Done P nt pins Q .normal ⟨(s.σ.put d0 none).put d1 (some (.ptr it 0)), (s.H.put mid (some (.ptx ag m es clock b0))).put it (some (.obj (.mapIter (some b0) clock #[] clock)))⟩) :
    awp P nt pins (.region rid ops false) s Q := fun C a w φ F h1 h2 h3 h4 => by
  obtain ⟨b, N, hφ, hv, es, clock, e1, e2, e3, e4⟩ := map_at h4 hm hB
  have hlen : es.size = m.length := by
    clear hd hB hφ hv e1 e3
    have : ∀ (l : List MapEntry) (m : List (List Int × PV)), PRs ag w F m l → l.length = m.length := by
      intro l
      induction l with
      | nil => intro m hm; cases m with
        | nil => rfl
        | cons a m => exact hm.elim
      | cons e l ih => intro m hm; cases m with
        | nil => exact hm.elim
        | cons a m => obtain ⟨k, p⟩ := a; simp [ih m hm.2.2]
    have := this _ _ e4
    simpa using this
  have sz := h4.nt
  refine wp_region ?_
  rw [hsz, show List.range 2 = [0, 1] from rfl, wpOps_cons]
  refine wpOp_val ho0.1 ho0.2.1 (s := pure (a.eval (.tmp tm))) (v := .map (some b)) (w' := w) (by simp [execOp, ho0.2.2.2]) (by rw [hv]; simp) ?_
  rw [ho0.2.2.1, wpOps_cons]
  have q1 : (a.put (some d0) (.map (some b))).eval (.tmp d0) = .map (some b) := put_same _ (by rw [sz, h1]; exact hlt.1)
  refine wpOp_val ho1.1 ho1.2.1 (s := Instr.range t (.map (some b))) (v := .pointer (some ⟨w.heap.size, 0, none⟩)) (w' := w.alloc (.mapIter (some b) clock #[] clock)) (by simp only [execOp, ho1.2.2.2]; rw [q1]) (run_range_map w t kt et b es clock hu e1) ?_
  rw [ho1.2.2.1]
  -- the states
  have hs1 : Sim C (s.st.blk mid (some (.ptx ag m es clock b))) a w φ F :=
    h4.write hφ rfl rfl rfl rfl (fun _ _ => rfl) e2 ⟨rfl, e1, e2, e3, e4⟩
  have hs2 := hs1.put (d := d0) (by rw [h1]; exact hlt.1) (v := .map (some b)) (x := none) (fun y hy => by cases hy)
  have hfr : Fresh ((s.st.blk mid (some (.ptx ag m es clock b))).set d0 none) it := by
    have := LS.fresh hnew.1
    refine ⟨?_, fun t x hx => ?_, fun i B hB => ?_⟩
    · show (if it = mid then _ else s.st.H it) = none
      rw [if_neg hne]; exact this.blk
    · simp only [St.set, St.blk] at hx
      split at hx
      · cases hx
      · exact this.env t x hx
    · simp only [St.set, St.blk] at hB
      split at hB
      · injection hB with hB; subst hB; intro hc; cases hc
      · exact this.own i B hB
  have hpin : C.pin it = none := Classical.byContradiction fun hn => hnew.2 (h2 it hn)
  have hs3 := hs2.allocObj (id := it) (B' := .obj (.mapIter (some b) clock #[] clock)) hfr hpin (.mapIter (some b) clock #[] clock) ⟨heap_alloc_new w _, rfl⟩
  have hs4 := hs3.put (d := d1) (by rw [h1]; exact hlt.2) (v := .pointer (some ⟨w.heap.size, 0, none⟩)) (x := some (.ptr it 0)) (fun y hy => by
    injection hy with hy; subst hy
    intro z hz
    rw [Phi.set_eq] at hz; injection hz with hz; subst hz
    exact ⟨_, _, rfl, rfl⟩)
  refine hd es clock b hlen e3 C _ _ (φ.set it (some (some (w.heap.size, ⟨0, []⟩)))) F h1 h2 h3 ?_
  rw [show (LS.mk ((s.σ.put d0 none).put d1 (some (.ptr it 0))) ((s.H.put mid (some (.ptx ag m es clock b))).put it (some (.obj (.mapIter (some b) clock #[] clock))))) = LS.mk ((LS.mk (s.σ.put d0 none) ((s.H.put mid (some (.ptx ag m es clock b))).put it (some (.obj (.mapIter (some b) clock #[] clock))))).σ.put d1 (some (.ptr it 0))) ((s.H.put mid (some (.ptx ag m es clock b))).put it (some (.obj (.mapIter (some b) clock #[] clock)))) from rfl]
  rw [ls_put (LS.mk (s.σ.put d0 none) ((s.H.put mid (some (.ptx ag m es clock b))).put it (some (.obj (.mapIter (some b) clock #[] clock))))) d1]
  rw [ls_blk (LS.mk (s.σ.put d0 none) (s.H.put mid (some (.ptx ag m es clock b)))) it, ls_put (LS.mk s.σ (s.H.put mid (some (.ptx ag m es clock b)))) d0, ls_blk s mid]
  exact hs4
/-- The map is a map of pure data again. -/
theorem awp_unptx {c : Code} {s : LS} {mid ag clock b0 : Nat} {m : List (List Int × PV)} {es : Array MapEntry} (hB : s.H.get mid = some (.ptx ag m es clock b0)) (h : awp P nt pins c ⟨s.σ, s.H.put mid (some (.ptab ag m))⟩ Q) : awp P nt pins c s Q := fun C a w φ F h1 h2 h3 h4 => by
  obtain ⟨y, hy⟩ := h4.live (show s.st.H mid = some _ from hB)
  cases y with
  | none =>
    obtain ⟨x, hx, hs⟩ := h4.own mid _ (show s.st.H mid = some _ from hB)
    rw [hy] at hx; injection hx with hx; subst hx
    obtain ⟨ty, e⟩ := hs; cases e
  | some y =>
    obtain ⟨b, N⟩ := y
    obtain ⟨⟨e0, e1, e2, e3, e4⟩, _⟩ := h4.own_at (show s.st.H mid = some _ from hB) hy
    refine h C a w φ F h1 h2 h3 ?_
    rw [ls_blk]
    exact h4.write hy rfl rfl rfl rfl (fun _ _ => rfl) e2 ⟨es, clock, e1, e2, e3, e4⟩
theorem Done.unptx {e : Exit} {s : LS} {mid ag clock b0 : Nat} {m : List (List Int × PV)} {es : Array MapEntry} (hB : s.H.get mid = some (.ptx ag m es clock b0)) (h : Done P nt pins Q e ⟨s.σ, s.H.put mid (some (.ptab ag m))⟩) : Done P nt pins Q e s := fun C a w φ F h1 h2 h3 h4 => by
  obtain ⟨y, hy⟩ := h4.live (show s.st.H mid = some _ from hB)
  cases y with
  | none =>
    obtain ⟨x, hx, hs⟩ := h4.own mid _ (show s.st.H mid = some _ from hB)
    rw [hy] at hx; injection hx with hx; subst hx
    obtain ⟨ty, e⟩ := hs; cases e
  | some y =>
    obtain ⟨b, N⟩ := y
    obtain ⟨⟨e0, e1, e2, e3, e4⟩, _⟩ := h4.own_at (show s.st.H mid = some _ from hB) hy
    refine h C a w φ F h1 h2 h3 ?_
    rw [ls_blk]
    exact h4.write hy rfl rfl rfl rfl (fun _ _ => rfl) e2 ⟨es, clock, e1, e2, e3, e4⟩
/-- A part with some outcome of R, and what follows it. -/
theorem awp_tailE {O : Type} {s : LS} (R : O → Prop) (ex : Exit) (St : O → LS) {x : Code} (h : awp P nt pins x s (fun e s' => e = ex ∧ ∃ o, R o ∧ s' = St o)) (hd : ∀ o, R o → Done P nt pins Q ex (St o)) : awp P nt pins x s Q := fun C a w φ F h1 h2 h3 h4 => by
  refine wp_mono (h C a w φ F h1 h2 h3 h4) ?_
  rintro e a' w' ⟨_, φ', F', ⟨rfl, o, ho, rfl⟩, hs⟩
  exact hd o ho C a' w' φ' F' h1 h2 h3 hs
/-- Which entries have come: by their places. -/
structure Come (n : Nat) where
  js : List Nat
  nd : js.Nodup
  lt : ∀ j ∈ js, j < n
def Come.nil (n : Nat) : Come n := ⟨[], List.nodup_nil, fun _ h => by cases h⟩
def seenOf (es : Array MapEntry) (js : List Nat) : Array Nat := (js.map fun j => ((es.toList[j]?).map (·.born)).getD 0).toArray
theorem seenOf_push (es : Array MapEntry) (js : List Nat) {j : Nat} {e : MapEntry} (h : es.toList[j]? = some e) : seenOf es (js ++ [j]) = (seenOf es js).push e.born := by
  unfold seenOf
  rw [List.map_append, List.map_cons, List.map_nil, h]
  simp
theorem seenOf_not {es : Array MapEntry} {js : List Nat} {j : Nat} {e : MapEntry} (h : es.toList[j]? = some e) (hs : (seenOf es js).contains e.born = false) : j ∉ js := fun hj => by
  have : e.born ∈ (js.map fun j => ((es.toList[j]?).map (·.born)).getD 0) := List.mem_map.2 ⟨j, hj, by rw [h]; rfl⟩
  have h2 : (seenOf es js).contains e.born = true := by
    unfold seenOf
    rw [Array.contains_iff_mem]
    simpa using this
  rw [h2] at hs; cases hs
theorem seenOf_all {es : Array MapEntry} {js : List Nat} (hlt : ∀ j ∈ js, j < es.size) (hnd : (es.toList.map (·.born)).Nodup) (h : ∀ x ∈ es.toList, (seenOf es js).contains x.born = true) : ∀ j, j < es.size → j ∈ js := fun j hj => by
  have hjl : j < es.toList.length := by simpa using hj
  have := h es.toList[j] (List.getElem_mem hjl)
  unfold seenOf at this
  rw [Array.contains_iff_mem] at this
  simp only [List.mem_toArray, List.mem_map] at this
  obtain ⟨i, hi, he⟩ := this
  have hil : i < es.toList.length := by simpa using hlt i hi
  rw [List.getElem?_eq_getElem hil] at he
  simp only [Option.map_some, Option.getD_some] at he
  have h1 : (es.toList.map (·.born))[i]? = (es.toList.map (·.born))[j]? := by
    rw [List.getElem?_map, List.getElem?_map, List.getElem?_eq_getElem hil, List.getElem?_eq_getElem hjl, Option.map_some, Option.map_some, he]
  have := (List.getElem?_inj (by simpa using hil) hnd).1 h1
  rw [← this]; exact hi
/-- What has come, by the places. -/
def comeKeys {κ β : Type} (m : List (κ × β)) (js : List Nat) : List κ := js.filterMap fun j => (m[j]?).map (·.1)
theorem filterMap_range' {α : Type} : ∀ (l : List α) (k : Nat) (f : Nat → Option α), (∀ j, j < l.length → f (k + j) = l[j]?) → (List.range' k l.length).filterMap f = l
  | [], k, f, _ => rfl
  | a :: l, k, f, h => by
    rw [List.length_cons, List.range'_succ, List.filterMap_cons]
    have h0 := h 0 (by simp)
    simp only [Nat.add_zero, List.getElem?_cons_zero] at h0
    rw [h0]
    simp only
    rw [filterMap_range' l (k + 1) f (fun j hj => by have := h (j + 1) (by simpa using hj); rw [show k + 1 + j = k + (j + 1) by omega]; simpa using this)]
theorem comeKeys_perm {κ β : Type} (m : List (κ × β)) {js : List Nat} (hnd : js.Nodup) (hlt : ∀ j ∈ js, j < m.length) (hall : ∀ j, j < m.length → j ∈ js) : (comeKeys m js).Perm (m.map (·.1)) := by
  have hp : js.Perm (List.range m.length) := by
    rw [List.perm_ext_iff_of_nodup hnd List.nodup_range]
    intro j
    rw [List.mem_range]
    exact ⟨hlt j, hall j⟩
  have h1 := hp.filterMap fun j => (m[j]?).map (·.1)
  have h2 : (List.range m.length).filterMap (fun j => (m[j]?).map (·.1)) = m.map (·.1) := by
    have := filterMap_range' (m.map (·.1)) 0 (fun j => (m[j]?).map (·.1)) (fun j hj => by rw [Nat.zero_add, List.getElem?_map])
    rw [List.length_map, ← List.range_eq_range'] at this
    exact this
  rw [h2] at h1
  exact h1
theorem comeKeys_snoc {κ β : Type} (m : List (κ × β)) (js : List Nat) {j : Nat} {x : κ × β} (h : m[j]? = some x) : comeKeys m (js ++ [j]) = comeKeys m js ++ [x.1] := by
  unfold comeKeys
  rw [List.filterMap_append, List.filterMap_cons, h]
  rfl
theorem nodup_lt : ∀ (n : Nat) (l : List Nat), l.Nodup → (∀ j ∈ l, j < n) → l.length ≤ n
  | 0, l, _, h => by
    cases l with
    | nil => exact Nat.le_refl _
    | cons a l => exact absurd (h a (by simp)) (Nat.not_lt_zero _)
  | n + 1, l, hn, h => by
    have := nodup_lt n (l.erase n) (hn.erase n) fun j hj => by
      have h1 := (hn.mem_erase_iff).1 hj
      have := h j h1.2
      have := h1.1
      omega
    rw [List.length_erase] at this
    split at this <;> omega
theorem come_len (n : Nat) {js : List Nat} (hnd : js.Nodup) (hlt : ∀ j ∈ js, j < n) {j : Nat} (hj : j < n) (hno : j ∉ js) : js.length + 1 ≤ n := by
  have h1 : (js ++ [j]).Nodup := by
    rw [List.nodup_append]
    exact ⟨hnd, by simp, fun a ha b hb e => by simp at hb; subst hb; exact hno (e ▸ ha)⟩
  have := nodup_lt n (js ++ [j]) h1 fun x hx => by
    rcases List.mem_append.1 hx with hx | hx
    · exact hlt x hx
    · simp at hx; omega
  simpa using this
def Come.snoc {n : Nat} (c : Come n) (j : Nat) (hj : j < n) (hno : j ∉ c.js) : Come n := ⟨c.js ++ [j], by
    rw [List.nodup_append]
    exact ⟨c.nd, by simp, fun a ha b hb e => by simp at hb; subst hb; exact hno (e ▸ ha)⟩, fun x hx => by
    rcases List.mem_append.1 hx with hx | hx
    · exact c.lt x hx
    · simp at hx; omega⟩
theorem comeKeys_len {κ β : Type} (m : List (κ × β)) (js : List Nat) : (comeKeys m js).length ≤ js.length := List.length_filterMap_le _ _
theorem Come.size {n : Nat} (c : Come n) {κ β : Type} (m : List (κ × β)) {j : Nat} (hj : j < n) (hno : j ∉ c.js) (hn : n ≤ 1099511627776) {x : κ} : (comeKeys m c.js).length + [x].length ≤ 1099511627776 := by
  have := come_len n c.nd c.lt hj hno
  have := comeKeys_len m c.js
  simp only [List.length_cons, List.length_nil]
  omega
/-- 'next': nothing is left, or some entry comes. -/
theorem awp_next {rid d1 d2 t mid ag it b0 clock : Nat} {ops : Array Oper} {s : LS} {m : List (List Int × PV)} {es : Array MapEntry} {seen : Array Nat} {o0 o1 : Oper} (hsz : ops.size = 2)
    (ho0 : ops[0]? = some o0 ∧ o0.guard = none ∧ o0.dst = some d1 ∧ o0.op = .next (.tmp t) false) (ho1 : ops[1]? = some o1 ∧ o1.guard = none ∧ o1.dst = some d2 ∧ o1.op = .extract (.tmp d1) 0)
    (hlt : d1 < nt ∧ d2 < nt) (ht : s.σ.get t = some (.ptr it 0)) (hI : s.H.get it = some (.obj (.mapIter (some b0) clock seen clock))) (hB : s.H.get mid = some (.ptx ag m es clock b0))
    (h0 : (∀ x ∈ es.toList, seen.contains x.born = true) → Done P nt pins Q .normal ⟨(s.σ.put d1 none).put d2 (some (pB false)), s.H⟩)
    (hm : ∀ e ∈ es.toList, seen.contains e.born = false → (leftOf es (seen.push e.born)).size < (leftOf es seen).size → Done P nt pins Q .normal ⟨(s.σ.put d1 none).put d2 (some (pB true)), s.H.put it (some (.obj (.mapIter (some b0) clock (seen.push e.born) clock)))⟩) :
    awp P nt pins (.region rid ops false) s Q := fun C a w φ F h1 h2 h3 h4 => by
  obtain ⟨r, N, hφ, hv, e1, e2⟩ := ptr_at h4 ht hI
  obtain ⟨y, hy⟩ := h4.live (show s.st.H mid = some _ from hB)
  have hb : w.heap[b0]? = some (.map es clock) ∧ Stamps es.toList clock := by
    cases y with
    | none =>
      obtain ⟨x, hx, hs⟩ := h4.own mid _ (show s.st.H mid = some _ from hB)
      rw [hy] at hx; injection hx with hx; subst hx
      obtain ⟨ty, e⟩ := hs; cases e
    | some y =>
      obtain ⟨b, N'⟩ := y
      obtain ⟨⟨q0, q1, _, q3, _⟩, _⟩ := h4.own_at (show s.st.H mid = some _ from hB) hy
      subst q0; exact ⟨q1, q3⟩
  have sz := h4.nt
  refine wp_region ?_
  rw [hsz, show List.range 2 = [0, 1] from rfl, wpOps_cons]
  rcases run_next_at (P := P) w o0.type r b0 clock clock seen es clock e1 hb.1 hb.2.2 (Nat.le_refl _) with ⟨hz, hrun⟩ | ⟨e, he, w1, hal, hrun⟩
  · refine wpOp_val ho0.1 ho0.2.1 (s := Instr.next (.pointer (some ⟨r, 0, none⟩)) false o0.type) (v := .tuple #[.bool false]) (w' := w) (by simp only [execOp, ho0.2.2.2]; rw [hv]) hrun ?_
    rw [ho0.2.2.1, wpOps_cons]
    have q1 : (a.put (some d1) (.tuple #[.bool false])).eval (.tmp d1) = .tuple #[.bool false] := put_same _ (by rw [sz, h1]; exact hlt.1)
    refine wpOp_val ho1.1 ho1.2.1 (s := Instr.extract (.tuple #[.bool false]) 0) (v := .bool false) (w' := w) (by simp only [execOp, ho1.2.2.2]; rw [q1]) (by simp [Instr.extract]) ?_
    rw [ho1.2.2.1]
    refine h0 (all_seen es seen hz) C _ _ φ F h1 h2 h3 ?_
    rw [ls_put (LS.mk (s.σ.put d1 none) s.H) d2, ls_put s d1]
    exact (h4.put (by rw [h1]; exact hlt.1) (fun y hy => by cases hy)).put (by rw [h1]; exact hlt.2) (fun y hy => by injection hy with hy; subst hy; exact RV.bool false)
  · refine wpOp_val ho0.1 ho0.2.1 (s := Instr.next (.pointer (some ⟨r, 0, none⟩)) false o0.type) (v := .tuple #[.bool true, e.key, e.val]) (w' := _) (by simp only [execOp, ho0.2.2.2]; rw [hv]) hrun ?_
    rw [ho0.2.2.1, wpOps_cons]
    have q1 : (a.put (some d1) (.tuple #[.bool true, e.key, e.val])).eval (.tmp d1) = .tuple #[.bool true, e.key, e.val] := put_same _ (by rw [sz, h1]; exact hlt.1)
    refine wpOp_val ho1.1 ho1.2.1 (s := Instr.extract (.tuple #[.bool true, e.key, e.val]) 0) (v := .bool true) (w' := setBlock w1 r (.mapIter (some b0) clock (seen.push e.born) clock)) (by simp only [execOp, ho1.2.2.2]; rw [q1]) (by simp [Instr.extract]) ?_
    rw [ho1.2.2.1]
    obtain ⟨hem, hes⟩ := mem_left he
    refine hm e hem hes (left_shrinks es seen e he) C _ _ φ F h1 h2 h3 ?_
    have hd1 : Sim C s.st a w1 φ F := by
      rcases hal with rfl | rfl
      · exact h4
      · exact h4.drew
    have hheap : w1.heap = w.heap := by rcases hal with rfl | rfl <;> rfl
    have hrlt : r < w1.heap.size := by rw [hheap]; exact (Array.getElem?_eq_some_iff.1 e1).1
    have hs1 : Sim C (s.st.blk it (some (.obj (.mapIter (some b0) clock (seen.push e.born) clock)))) a (setBlock w1 r (.mapIter (some b0) clock (seen.push e.born) clock)) φ F :=
      hd1.write hφ rfl rfl rfl (by simp [setBlock]) (fun k hk => setBlock_other w1 r _ hk) e2 ⟨setBlock_same w1 r _ hrlt, e2⟩
    rw [ls_put (LS.mk (s.σ.put d1 none) (s.H.put it (some (.obj (.mapIter (some b0) clock (seen.push e.born) clock))))) d2, ls_put (LS.mk s.σ (s.H.put it (some (.obj (.mapIter (some b0) clock (seen.push e.born) clock))))) d1, ls_blk]
    exact (hs1.put (by rw [h1]; exact hlt.1) (fun y hy => by cases hy)).put (by rw [h1]; exact hlt.2) (fun y hy => by injection hy with hy; subst hy; exact RV.bool true)
theorem PRs_get {ag : Nat} {w : World} {F : Nat → Prop} : ∀ {m : List (List Int × PV)} {l : List MapEntry}, PRs ag w F m l → ∀ (j : Nat) (e : MapEntry) (k : List Int) (p : PV), l[j]? = some e → m[j]? = some (k, p) → KI ag k e.key
  | [], [], _, j, e, k, p, h, _ => by simp at h
  | (k', p') :: m, e' :: l, hp, 0, e, k, p, h, h2 => by
    simp at h h2; obtain ⟨rfl, rfl⟩ := h2; subst h; exact hp.1
  | (k', p') :: m, e' :: l, hp, j + 1, e, k, p, h, h2 => PRs_get hp.2.2 j e k p (by simpa using h) (by simpa using h2)
  | [], _ :: _, hp, _, _, _, _, _, _ => hp.elim
  | _ :: _, [], hp, _, _, _, _, _, _ => hp.elim
theorem VRs_ints {φ : Phi} {F : Nat → Prop} {w : World} : ∀ {k : List Int}, (∀ n ∈ k, In64 n) → VRs φ F w (k.map fun n => AV.p (.int .i64 n)) (k.map fun n => Value.int .i64 n)
  | [], _ => by rw [List.map_nil, List.map_nil, VRs]
  | n :: k, h => by
    rw [List.map_cons, List.map_cons, VRs]
    refine ⟨_, _, rfl, ?_, VRs_ints fun n hn => h n (by simp [hn])⟩
    have := h n (by simp)
    unfold In64 at this
    exact RV.int (WalkArith.wf_i64 (by omega))
/-- 'entry', and what follows it in the region. -/
theorem awp_entry {rid d1 d2 t mid ag it b0 clock j : Nat} {ops : Array Oper} (orcs : Orcs) (gs : List Gh) {s s' : LS} {m : List (List Int × PV)} {es : Array MapEntry} {seen : Array Nat} {o0 o1 : Oper} {e : MapEntry} {k : List Int} {p : PV} (hsz : 2 ≤ ops.size)
    (ho0 : ops[0]? = some o0 ∧ o0.guard = none ∧ o0.dst = some d1 ∧ o0.op = .entry (.tmp t)) (ho1 : ops[1]? = some o1 ∧ o1.guard = none ∧ o1.dst = some d2 ∧ o1.op = .extract (.tmp d1) 0)
    (hlt : d1 < nt ∧ d2 < nt) (ht : s.σ.get t = some (.ptr it 0)) (hI : s.H.get it = some (.obj (.mapIter (some b0) clock (seen.push e.born) clock))) (hB : s.H.get mid = some (.ptx ag m es clock b0))
    (hj : es.toList[j]? = some e) (hk : m[j]? = some (k, p)) (hag : ag ≠ 0)
    (hev : evalTailS P nt pins ops 2 orcs gs ⟨(s.σ.put d1 none).put d2 (some (.agg (k.map fun n => AV.p (.int .i64 n)))), s.H⟩ = some s')
    (hco : Holds (condTail P nt pins ops 2 orcs gs ⟨(s.σ.put d1 none).put d2 (some (.agg (k.map fun n => AV.p (.int .i64 n)))), s.H⟩))
    (hd : Done P nt pins Q .normal s') :
    awp P nt pins (.region rid ops false) s Q := fun C a w φ F h1 h2 h3 h4 => by
  obtain ⟨r, N, hφ, hv, e1, e2⟩ := ptr_at h4 ht hI
  obtain ⟨y, hy⟩ := h4.live (show s.st.H mid = some _ from hB)
  have hb : w.heap[b0]? = some (.map es clock) ∧ Stamps es.toList clock ∧ PRs ag w F m es.toList := by
    cases y with
    | none =>
      obtain ⟨x, hx, hs⟩ := h4.own mid _ (show s.st.H mid = some _ from hB)
      rw [hy] at hx; injection hx with hx; subst hx
      obtain ⟨ty, e⟩ := hs; cases e
    | some y =>
      obtain ⟨b, N'⟩ := y
      obtain ⟨⟨q0, q1, _, q3, q4⟩, _⟩ := h4.own_at (show s.st.H mid = some _ from hB) hy
      subst q0; exact ⟨q1, q3, q4⟩
  have hki := PRs_get hb.2.2 j e k p hj hk
  obtain ⟨hin, hki⟩ := hki
  rw [if_neg hag] at hki
  have sz := h4.nt
  refine wp_region ?_
  have hrange : List.range ops.size = 0 :: 1 :: List.range' 2 (ops.size - 2) := by
    rw [List.range_eq_range']
    obtain ⟨q, hq⟩ : ∃ q, ops.size = q + 2 := ⟨ops.size - 2, by omega⟩
    rw [hq]; rfl
  rw [hrange, wpOps_cons]
  refine wpOp_val ho0.1 ho0.2.1 (s := Instr.entry (.pointer (some ⟨r, 0, none⟩))) (v := .tuple #[e.key, e.val]) (w' := w) (by simp only [execOp, ho0.2.2.2]; rw [hv]) (run_entry_at w r b0 clock seen es clock e e1 hb.1 (List.mem_of_getElem? hj) hb.2.1.1) ?_
  rw [ho0.2.2.1, wpOps_cons]
  have q1 : (a.put (some d1) (.tuple #[e.key, e.val])).eval (.tmp d1) = .tuple #[e.key, e.val] := put_same _ (by rw [sz, h1]; exact hlt.1)
  refine wpOp_val ho1.1 ho1.2.1 (s := Instr.extract (.tuple #[e.key, e.val]) 0) (v := e.key) (w' := w) (by simp only [execOp, ho1.2.2.2]; rw [q1]) (by simp [Instr.extract]) ?_
  rw [ho1.2.2.1]
  refine tail_sound (φ := φ) (F := F) h1 h2 h3 hev hco.h ?_ (fun a' w' φ' F' hs' => hd C a' w' φ' F' h1 h2 h3 hs')
  rw [ls_put (LS.mk (s.σ.put d1 none) s.H) d2, ls_put s d1]
  refine (h4.put (by rw [h1]; exact hlt.1) (fun y hy => by cases hy)).put (by rw [h1]; exact hlt.2) (fun y hy => ?_)
  injection hy with hy; subst hy
  refine ⟨_, hki.2, VRs_ints hin, fun u hu => ?_⟩
  rw [List.mem_map] at hu
  obtain ⟨n, _, rfl⟩ := hu
  rfl
end
end Go.AM
end
