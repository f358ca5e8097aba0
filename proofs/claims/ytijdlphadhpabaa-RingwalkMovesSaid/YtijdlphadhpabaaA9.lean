/- Ranging over a map of pure data, in whatever order: the map's block is held to its entries (ptx), the iterator's block is known whole (obj). -/
import Derived.Maps.RangeRun
import Derived.Test.YtijdlphadhpabaaA8
import Derived.Lib.SmallJoins
import Derived.ProofKit
import Derived.Shelf.SlSortCmp.NoneTotal
import Derived.Test.YtijdlphadhpabaaA7
import Derived.Shelf.SlicesE.Delete
section
namespace Go.AM
open Go Go.RowKit Go.ChangeMaps
section
variable {P : Program} {nt : Nat} {ops : Array Oper} {orcs : Orcs}
/-- The operations from number k on. -/
def evalTail (P : Program) (nt : Nat) (pins : List Nat) (ops : Array Oper) (k : Nat) (orcs : Orcs) (s : LS) : Option (LS × Prop) :=
  match runOps P nt ops orcs (ops.toList.drop k) k s with
  | none => none
  | some (ocs, s', C) => if noneOf (s.ids ++ pins) (ocs.flatMap Oc.news) && fwdB ocs then some (s', C) else none
def evalTailS (P : Program) (nt : Nat) (pins : List Nat) (ops : Array Oper) (k : Nat) (orcs : Orcs) (gs : List Gh) (s : LS) : Option LS :=
  match evalTail P nt pins ops k orcs s with
  | some (s1, _) => runGh pins gs s1
  | none => none
def condTail (P : Program) (nt : Nat) (pins : List Nat) (ops : Array Oper) (k : Nat) (orcs : Orcs) (gs : List Gh) (s : LS) : Prop :=
  match evalTail P nt pins ops k orcs s with
  | some (s1, c) => c ∧ condGh pins gs s1
  | none => False
theorem tail_sound {C : Ctx} {a : Act} {w : World} {φ : Phi} {F : Nat → Prop} {pins : List Nat} (hnt : C.nt = nt) (hp : ∀ id, C.pin id ≠ none → id ∈ pins) (hG : pins = [] → ∀ b, ¬ C.G b) {k : Nat} {gs : List Gh} {s s' : LS}
    (he : evalTailS P nt pins ops k orcs gs s = some s') (hc : condTail P nt pins ops k orcs gs s) (h : Sim C s.st a w φ F) {Q : Exit → Act → World → Prop} (hQ : ∀ a' w' φ' F', Sim C s'.st a' w' φ' F' → Q .normal a' w') :
    wpOps P ops Q (List.range' k (ops.size - k)) a w := by
  unfold evalTailS at he
  unfold condTail at hc
  split at he
  case h_2 => cases he
  rename_i s1 C1 hev
  rw [hev] at hc
  unfold evalTail at hev
  split at hev
  · cases hev
  rename_i ocs s2 C2 hr
  split at hev
  case isFalse => cases hev
  rename_i hchk
  simp only [Option.some.injEq, Prod.mk.injEq] at hev
  obtain ⟨rfl, rfl⟩ := hev
  simp only [Bool.and_eq_true] at hchk
  obtain ⟨hn, hfw⟩ := hchk
  have hlen : (ops.toList.drop k).length = ops.size - k := by simp
  obtain ⟨hl, hok⟩ := runOps_ok' (ops.toList.drop k) k s s2 ocs C2 hr hc.1 (fun j hj => by rw [List.getElem?_drop]; simp)
  have hok' := hok (fun i => ocs.getD (i - k) .skip) (fun j hj => by simp)
  rw [hlen] at hl hok'
  have hmem : ∀ i, i ∈ List.range' k (ops.size - k) → i - k < ocs.length := fun i hi => by
    rw [List.mem_range'_1] at hi; omega
  have hnew : ∀ i, i < ocs.length → ∀ id ∈ (ocs.getD i .skip).news, id ∉ s.ids ∧ id ∉ pins := fun i hil id hid => by
    have hm : id ∈ ocs.flatMap Oc.news := List.mem_flatMap.2 ⟨ocs[i], List.getElem_mem hil, by simpa [hil] using hid⟩
    have := noneOf_iff hn id hm
    rw [List.mem_append, not_or] at this
    exact this
  refine ok_seq hnt hp (List.range' k (ops.size - k)) s.st a w φ F h hok' (fun j hj id hid => LS.fresh (hnew _ (hmem j hj) id hid).1) ?_ (fun i hi id hid => (hnew _ (hmem i hi) id hid).2) fun a' w' φ' F' hs' => ?_
  · rw [List.pairwise_iff_getElem]
    intro i j hi hj hij
    simp only [List.length_range'] at hi hj
    simp only [List.getElem_range', Nat.one_mul]
    have := fwdB_get hfw i j hij (by omega)
    unfold Fwd at this ⊢
    simpa using this
  · obtain ⟨φ'', F'', h6⟩ := runGh_sound hp hG he hc.2 hs'
    exact hQ a' w' φ'' F'' h6
end
section
variable {P : Program} {nt : Nat} {pins : List Nat} {Q : Exit → LS → Prop}
/-- A loop by a relation and a measure; the round may end in more than one way. -/
theorem awp_loopR {S : Type} (St : S → LS) (μ : S → Nat) {c : Code} (hb : ∀ s, awp P nt pins c (St s) (fun e s' => (e = .normal ∧ ∃ s1, μ s1 < μ s ∧ s' = St s1) ∨ (e ≠ .normal ∧ Q e s'))) (s0 : S) : awp P nt pins (.loop c) (St s0) Q := by
  intro C a w φ F h1 h2 h3 h4
  refine wp_loop_rounds (μ s0 + 1) ?_
  have key : ∀ (n : Nat) (s : S) (a : Act) (w : World) (φ : Phi) (F : Nat → Prop), μ s < n → Sim C (St s).st a w φ F → Code.rounds P c (AQ C Q) n a w := by
    intro n
    induction n with
    | zero => intro s a w φ F hs; exact absurd hs (Nat.not_lt_zero _)
    | succ n ih =>
      intro s a w φ F hs hsim
      rw [rounds_succ]
      refine wp_mono (hb s C a w φ F h1 h2 h3 hsim) ?_
      rintro e a' w' ⟨s', φ', F', hq, hs'⟩
      rcases hq with ⟨rfl, s1, hlt, rfl⟩ | ⟨hne, hq⟩
      · exact ih s1 a' w' φ' F' (by omega) hs'
      · cases e with
        | normal => exact absurd rfl hne
        | _ => exact ⟨s', φ', F', hq, hs'⟩
  exact key (μ s0 + 1) s0 a w φ F (Nat.lt_succ_self _) h4
theorem ls_put (s : LS) (d : Nat) (x : Option AV) : (LS.mk (s.σ.put d x) s.H).st = s.st.set d x := put_st_σ s d x
theorem ls_blk (s : LS) (id : Nat) (B : Option ABlk) : (LS.mk s.σ (s.H.put id B)).st = s.st.blk id B := put_st_H s id B
theorem map_at {C : Ctx} {s : LS} {a : Act} {w : World} {φ : Phi} {F : Nat → Prop} (h : Sim C s.st a w φ F) {t id : Nat} {B : ABlk} (ht : s.σ.get t = some (.map id)) (hB : s.H.get id = some B) : ∃ b N, φ id = some (some (b, N)) ∧ a.eval (.tmp t) = .map (some b) ∧ BR φ F w b N B := by
  obtain ⟨y, hy⟩ := h.live (show s.st.H id = some B from hB)
  obtain ⟨b, N, rfl, e⟩ := (h.env t _ ht : VR φ F w _ _) y hy
  exact ⟨b, N, hy, e, (h.own_at (show s.st.H id = some B from hB) hy).1⟩
theorem ptr_at {C : Ctx} {s : LS} {a : Act} {w : World} {φ : Phi} {F : Nat → Prop} (h : Sim C s.st a w φ F) {t id off : Nat} {B : ABlk} (ht : s.σ.get t = some (.ptr id off)) (hB : s.H.get id = some B) : ∃ b N, φ id = some (some (b, N)) ∧ a.eval (.tmp t) = .pointer (some ⟨b, off, none⟩) ∧ BR φ F w b N B := by
  obtain ⟨y, hy⟩ := h.live (show s.st.H id = some B from hB)
  obtain ⟨b, N, rfl, e⟩ := (h.env t _ ht : VR φ F w _ _) y hy
  exact ⟨b, N, hy, e, (h.own_at (show s.st.H id = some B from hB) hy).1⟩
theorem fresh_of {s : LS} {it : Nat} (h : noneOf (s.ids ++ pins) [it] = true) : it ∉ s.ids ∧ it ∉ pins := by
  have := noneOf_iff h it (by simp)
  rwa [List.mem_append, not_or] at this
/-- 'range m'. -/
theorem awp_rangeMap {rid d0 d1 tm t kt et mid ag it : Nat} {ops : Array Oper} {s : LS} {m : List (List Int × PV)} {o0 o1 : Oper} (hsz : ops.size = 2) (hu : P.underlying t = some (.map kt et))
    (ho0 : ops[0]? = some o0 ∧ o0.guard = none ∧ o0.dst = some d0 ∧ o0.op = .move (.tmp tm)) (ho1 : ops[1]? = some o1 ∧ o1.guard = none ∧ o1.dst = some d1 ∧ o1.op = .range t (.tmp d0))
    (hlt : d0 < nt ∧ d1 < nt) (hm : s.σ.get tm = some (.map mid)) (hB : s.H.get mid = some (.ptab ag m)) (hne : it ≠ mid) (hnew : it ∉ s.ids ∧ it ∉ pins)
    (hd : ∀ es clock b0, es.size = m.length → Stamps es.toList clock → Done P nt pins Q .normal ⟨(s.σ.put d0 none).put d1 (some (.ptr it 0)), (s.H.put mid (some (.ptx ag m es clock b0))).put it (some (.obj (.mapIter (some b0) clock #[] clock)))⟩) :
    awp P nt pins (.region rid ops false) s Q := fun C a w φ F h1 h2 h3 h4 => by
  obtain ⟨b, N, hφ, hv, es, clock, e1, e2, e3, e4⟩ := map_at h4 hm hB
  have hlen : es.size = m.length := by
    clear hd hB hφ hv e1 e3
    have : ∀ (l : List MapEntry) (m : List (List Int × PV)), PRs ag w F m l → l.length = m.length := by
      intro l
      induction l with
      | nil => intro m hm; cases m with
        | nil => rfl
        | cons a m => exact hm.elim
      | cons e l ih => intro m hm; cases m with
        | nil => exact hm.elim
        | cons a m => obtain ⟨k, p⟩ := a; simp [ih m hm.2.2]
    have := this _ _ e4
    simpa using this
  have sz := h4.nt
  refine wp_region ?_
  rw [hsz, show List.range 2 = [0, 1] from rfl, wpOps_cons]
  refine wpOp_val ho0.1 ho0.2.1 (s := pure (a.eval (.tmp tm))) (v := .map (some b)) (w' := w) (by simp [execOp, ho0.2.2.2]) (by rw [hv]; simp) ?_
  rw [ho0.2.2.1, wpOps_cons]
  have q1 : (a.put (some d0) (.map (some b))).eval (.tmp d0) = .map (some b) := put_same _ (by rw [sz, h1]; exact hlt.1)
  refine wpOp_val ho1.1 ho1.2.1 (s := Instr.range t (.map (some b))) (v := .pointer (some ⟨w.heap.size, 0, none⟩)) (w' := w.alloc (.mapIter (some b) clock #[] clock)) (by simp only [execOp, ho1.2.2.2]; rw [q1]) (run_range_map w t kt et b es clock hu e1) ?_
  rw [ho1.2.2.1]
  -- the states
  have hs1 : Sim C (s.st.blk mid (some (.ptx ag m es clock b))) a w φ F :=
    h4.write hφ rfl rfl rfl rfl (fun _ _ => rfl) e2 ⟨rfl, e1, e2, e3, e4⟩
  have hs2 := hs1.put (d := d0) (by rw [h1]; exact hlt.1) (v := .map (some b)) (x := none) (fun y hy => by cases hy)
  have hfr : Fresh ((s.st.blk mid (some (.ptx ag m es clock b))).set d0 none) it := by
    have := LS.fresh hnew.1
    refine ⟨?_, fun t x hx => ?_, fun i B hB => ?_⟩
    · show (if it = mid then _ else s.st.H it) = none
      rw [if_neg hne]; exact this.blk
    · simp only [St.set, St.blk] at hx
      split at hx
      · cases hx
      · exact this.env t x hx
    · simp only [St.set, St.blk] at hB
      split at hB
      · injection hB with hB; subst hB; intro hc; cases hc
      · exact this.own i B hB
  have hpin : C.pin it = none := Classical.byContradiction fun hn => hnew.2 (h2 it hn)
  have hs3 := hs2.allocObj (id := it) (B' := .obj (.mapIter (some b) clock #[] clock)) hfr hpin (.mapIter (some b) clock #[] clock) ⟨heap_alloc_new w _, rfl⟩
  have hs4 := hs3.put (d := d1) (by rw [h1]; exact hlt.2) (v := .pointer (some ⟨w.heap.size, 0, none⟩)) (x := some (.ptr it 0)) (fun y hy => by
    injection hy with hy; subst hy
    intro z hz
    rw [Phi.set_eq] at hz; injection hz with hz; subst hz
    exact ⟨_, _, rfl, rfl⟩)
  refine hd es clock b hlen e3 C _ _ (φ.set it (some (some (w.heap.size, ⟨0, []⟩)))) F h1 h2 h3 ?_
  rw [show (LS.mk ((s.σ.put d0 none).put d1 (some (.ptr it 0))) ((s.H.put mid (some (.ptx ag m es clock b))).put it (some (.obj (.mapIter (some b) clock #[] clock))))) = LS.mk ((LS.mk (s.σ.put d0 none) ((s.H.put mid (some (.ptx ag m es clock b))).put it (some (.obj (.mapIter (some b) clock #[] clock))))).σ.put d1 (some (.ptr it 0))) ((s.H.put mid (some (.ptx ag m es clock b))).put it (some (.obj (.mapIter (some b) clock #[] clock)))) from rfl]
  rw [ls_put (LS.mk (s.σ.put d0 none) ((s.H.put mid (some (.ptx ag m es clock b))).put it (some (.obj (.mapIter (some b) clock #[] clock))))) d1]
  rw [ls_blk (LS.mk (s.σ.put d0 none) (s.H.put mid (some (.ptx ag m es clock b)))) it, ls_put (LS.mk s.σ (s.H.put mid (some (.ptx ag m es clock b)))) d0, ls_blk s mid]
  exact hs4
/-- The map is a map of pure data again. -/
theorem awp_unptx {c : Code} {s : LS} {mid ag clock b0 : Nat} {m : List (List Int × PV)} {es : Array MapEntry} (hB : s.H.get mid = some (.ptx ag m es clock b0)) (h : awp P nt pins c ⟨s.σ, s.H.put mid (some (.ptab ag m))⟩ Q) : awp P nt pins c s Q := fun C a w φ F h1 h2 h3 h4 => by
  obtain ⟨y, hy⟩ := h4.live (show s.st.H mid = some _ from hB)
  cases y with
  | none =>
    obtain ⟨x, hx, hs⟩ := h4.own mid _ (show s.st.H mid = some _ from hB)
    rw [hy] at hx; injection hx with hx; subst hx
    obtain ⟨ty, e⟩ := hs; cases e
  | some y =>
    obtain ⟨b, N⟩ := y
    obtain ⟨⟨e0, e1, e2, e3, e4⟩, _⟩ := h4.own_at (show s.st.H mid = some _ from hB) hy
    refine h C a w φ F h1 h2 h3 ?_
    rw [ls_blk]
    exact h4.write hy rfl rfl rfl rfl (fun _ _ => rfl) e2 ⟨es, clock, e1, e2, e3, e4⟩
theorem Done.unptx {e : Exit} {s : LS} {mid ag clock b0 : Nat} {m : List (List Int × PV)} {es : Array MapEntry} (hB : s.H.get mid = some (.ptx ag m es clock b0)) (h : Done P nt pins Q e ⟨s.σ, s.H.put mid (some (.ptab ag m))⟩) : Done P nt pins Q e s := fun C a w φ F h1 h2 h3 h4 => by
  obtain ⟨y, hy⟩ := h4.live (show s.st.H mid = some _ from hB)
  cases y with
  | none =>
    obtain ⟨x, hx, hs⟩ := h4.own mid _ (show s.st.H mid = some _ from hB)
    rw [hy] at hx; injection hx with hx; subst hx
    obtain ⟨ty, e⟩ := hs; cases e
  | some y =>
    obtain ⟨b, N⟩ := y
    obtain ⟨⟨e0, e1, e2, e3, e4⟩, _⟩ := h4.own_at (show s.st.H mid = some _ from hB) hy
    refine h C a w φ F h1 h2 h3 ?_
    rw [ls_blk]
    exact h4.write hy rfl rfl rfl rfl (fun _ _ => rfl) e2 ⟨es, clock, e1, e2, e3, e4⟩
/-- A part with some outcome of R, and what follows it. -/
theorem awp_tailE {O : Type} {s : LS} (R : O → Prop) (ex : Exit) (St : O → LS) {x : Code} (h : awp P nt pins x s (fun e s' => e = ex ∧ ∃ o, R o ∧ s' = St o)) (hd : ∀ o, R o → Done P nt pins Q ex (St o)) : awp P nt pins x s Q := fun C a w φ F h1 h2 h3 h4 => by
  refine wp_mono (h C a w φ F h1 h2 h3 h4) ?_
  rintro e a' w' ⟨_, φ', F', ⟨rfl, o, ho, rfl⟩, hs⟩
  exact hd o ho C a' w' φ' F' h1 h2 h3 hs
/-- Which entries have come: by their places. -/
structure Come (n : Nat) where
  js : List Nat
  nd : js.Nodup
  lt : ∀ j ∈ js, j < n
def Come.nil (n : Nat) : Come n := ⟨[], List.nodup_nil, fun _ h => by cases h⟩
def seenOf (es : Array MapEntry) (js : List Nat) : Array Nat := (js.map fun j => ((es.toList[j]?).map (·.born)).getD 0).toArray
theorem seenOf_push (es : Array MapEntry) (js : List Nat) {j : Nat} {e : MapEntry} (h : es.toList[j]? = some e) : seenOf es (js ++ [j]) = (seenOf es js).push e.born := by
  unfold seenOf
  rw [List.map_append, List.map_cons, List.map_nil, h]
  simp
theorem seenOf_not {es : Array MapEntry} {js : List Nat} {j : Nat} {e : MapEntry} (h : es.toList[j]? = some e) (hs : (seenOf es js).contains e.born = false) : j ∉ js := fun hj => by
  have : e.born ∈ (js.map fun j => ((es.toList[j]?).map (·.born)).getD 0) := List.mem_map.2 ⟨j, hj, by rw [h]; rfl⟩
  have h2 : (seenOf es js).contains e.born = true := by
    unfold seenOf
    rw [Array.contains_iff_mem]
    simpa using this
  rw [h2] at hs; cases hs
theorem seenOf_all {es : Array MapEntry} {js : List Nat} (hlt : ∀ j ∈ js, j < es.size) (hnd : (es.toList.map (·.born)).Nodup) (h : ∀ x ∈ es.toList, (seenOf es js).contains x.born = true) : ∀ j, j < es.size → j ∈ js := fun j hj => by
  have hjl : j < es.toList.length := by simpa using hj
  have := h es.toList[j] (List.getElem_mem hjl)
  unfold seenOf at this
  rw [Array.contains_iff_mem] at this
  simp only [List.mem_toArray, List.mem_map] at this
  obtain ⟨i, hi, he⟩ := this
  have hil : i < es.toList.length := by simpa using hlt i hi
  rw [List.getElem?_eq_getElem hil] at he
  simp only [Option.map_some, Option.getD_some] at he
  have h1 : (es.toList.map (·.born))[i]? = (es.toList.map (·.born))[j]? := by
    rw [List.getElem?_map, List.getElem?_map, List.getElem?_eq_getElem hil, List.getElem?_eq_getElem hjl, Option.map_some, Option.map_some, he]
  have := (List.getElem?_inj (by simpa using hil) hnd).1 h1
  rw [← this]; exact hi
/-- What has come, by the places. -/
def comeKeys {κ β : Type} (m : List (κ × β)) (js : List Nat) : List κ := js.filterMap fun j => (m[j]?).map (·.1)
theorem filterMap_range' {α : Type} : ∀ (l : List α) (k : Nat) (f : Nat → Option α), (∀ j, j < l.length → f (k + j) = l[j]?) → (List.range' k l.length).filterMap f = l
  | [], k, f, _ => rfl
  | a :: l, k, f, h => by
    rw [List.length_cons, List.range'_succ, List.filterMap_cons]
    have h0 := h 0 (by simp)
    simp only [Nat.add_zero, List.getElem?_cons_zero] at h0
    rw [h0]
    simp only
    rw [filterMap_range' l (k + 1) f (fun j hj => by have := h (j + 1) (by simpa using hj); rw [show k + 1 + j = k + (j + 1) by omega]; simpa using this)]
theorem comeKeys_perm {κ β : Type} (m : List (κ × β)) {js : List Nat} (hnd : js.Nodup) (hlt : ∀ j ∈ js, j < m.length) (hall : ∀ j, j < m.length → j ∈ js) : (comeKeys m js).Perm (m.map (·.1)) := by
  have hp : js.Perm (List.range m.length) := by
    rw [List.perm_ext_iff_of_nodup hnd List.nodup_range]
    intro j
    rw [List.mem_range]
    exact ⟨hlt j, hall j⟩
  have h1 := hp.filterMap fun j => (m[j]?).map (·.1)
  have h2 : (List.range m.length).filterMap (fun j => (m[j]?).map (·.1)) = m.map (·.1) := by
    have := filterMap_range' (m.map (·.1)) 0 (fun j => (m[j]?).map (·.1)) (fun j hj => by rw [Nat.zero_add, List.getElem?_map])
    rw [List.length_map, ← List.range_eq_range'] at this
    exact this
  rw [h2] at h1
  exact h1
theorem comeKeys_snoc {κ β : Type} (m : List (κ × β)) (js : List Nat) {j : Nat} {x : κ × β} (h : m[j]? = some x) : comeKeys m (js ++ [j]) = comeKeys m js ++ [x.1] := by
  unfold comeKeys
  rw [List.filterMap_append, List.filterMap_cons, h]
  rfl
theorem nodup_lt : ∀ (n : Nat) (l : List Nat), l.Nodup → (∀ j ∈ l, j < n) → l.length ≤ n
  | 0, l, _, h => by
    cases l with
    | nil => exact Nat.le_refl _
    | cons a l => exact absurd (h a (by simp)) (Nat.not_lt_zero _)
  | n + 1, l, hn, h => by
    have := nodup_lt n (l.erase n) (hn.erase n) fun j hj => by
      have h1 := (hn.mem_erase_iff).1 hj
      have := h j h1.2
      have := h1.1
      omega
    rw [List.length_erase] at this
    split at this <;> omega
theorem come_len (n : Nat) {js : List Nat} (hnd : js.Nodup) (hlt : ∀ j ∈ js, j < n) {j : Nat} (hj : j < n) (hno : j ∉ js) : js.length + 1 ≤ n := by
  have h1 : (js ++ [j]).Nodup := by
    rw [List.nodup_append]
    exact ⟨hnd, by simp, fun a ha b hb e => by simp at hb; subst hb; exact hno (e ▸ ha)⟩
  have := nodup_lt n (js ++ [j]) h1 fun x hx => by
    rcases List.mem_append.1 hx with hx | hx
    · exact hlt x hx
    · simp at hx; omega
  simpa using this
def Come.snoc {n : Nat} (c : Come n) (j : Nat) (hj : j < n) (hno : j ∉ c.js) : Come n := ⟨c.js ++ [j], by
    rw [List.nodup_append]
    exact ⟨c.nd, by simp, fun a ha b hb e => by simp at hb; subst hb; exact hno (e ▸ ha)⟩, fun x hx => by
    rcases List.mem_append.1 hx with hx | hx
    · exact c.lt x hx
    · simp at hx; omega⟩
theorem comeKeys_len {κ β : Type} (m : List (κ × β)) (js : List Nat) : (comeKeys m js).length ≤ js.length := List.length_filterMap_le _ _
theorem Come.size {n : Nat} (c : Come n) {κ β : Type} (m : List (κ × β)) {j : Nat} (hj : j < n) (hno : j ∉ c.js) (hn : n ≤ 1099511627776) {x : κ} : (comeKeys m c.js).length + [x].length ≤ 1099511627776 := by
  have := come_len n c.nd c.lt hj hno
  have := comeKeys_len m c.js
  simp only [List.length_cons, List.length_nil]
  omega
/-- 'next': nothing is left, or some entry comes. -/
theorem awp_next {rid d1 d2 t mid ag it b0 clock : Nat} {ops : Array Oper} {s : LS} {m : List (List Int × PV)} {es : Array MapEntry} {seen : Array Nat} {o0 o1 : Oper} (hsz : ops.size = 2)
    (ho0 : ops[0]? = some o0 ∧ o0.guard = none ∧ o0.dst = some d1 ∧ o0.op = .next (.tmp t) false) (ho1 : ops[1]? = some o1 ∧ o1.guard = none ∧ o1.dst = some d2 ∧ o1.op = .extract (.tmp d1) 0)
    (hlt : d1 < nt ∧ d2 < nt) (ht : s.σ.get t = some (.ptr it 0)) (hI : s.H.get it = some (.obj (.mapIter (some b0) clock seen clock))) (hB : s.H.get mid = some (.ptx ag m es clock b0))
    (h0 : (∀ x ∈ es.toList, seen.contains x.born = true) → Done P nt pins Q .normal ⟨(s.σ.put d1 none).put d2 (some (pB false)), s.H⟩)
    (hm : ∀ e ∈ es.toList, seen.contains e.born = false → (leftOf es (seen.push e.born)).size < (leftOf es seen).size → Done P nt pins Q .normal ⟨(s.σ.put d1 none).put d2 (some (pB true)), s.H.put it (some (.obj (.mapIter (some b0) clock (seen.push e.born) clock)))⟩) :
    awp P nt pins (.region rid ops false) s Q := fun C a w φ F h1 h2 h3 h4 => by
  obtain ⟨r, N, hφ, hv, e1, e2⟩ := ptr_at h4 ht hI
  obtain ⟨y, hy⟩ := h4.live (show s.st.H mid = some _ from hB)
  have hb : w.heap[b0]? = some (.map es clock) ∧ Stamps es.toList clock := by
    cases y with
    | none =>
      obtain ⟨x, hx, hs⟩ := h4.own mid _ (show s.st.H mid = some _ from hB)
      rw [hy] at hx; injection hx with hx; subst hx
      obtain ⟨ty, e⟩ := hs; cases e
    | some y =>
      obtain ⟨b, N'⟩ := y
      obtain ⟨⟨q0, q1, _, q3, _⟩, _⟩ := h4.own_at (show s.st.H mid = some _ from hB) hy
      subst q0; exact ⟨q1, q3⟩
  have sz := h4.nt
  refine wp_region ?_
  rw [hsz, show List.range 2 = [0, 1] from rfl, wpOps_cons]
  rcases run_next_at (P := P) w o0.type r b0 clock clock seen es clock e1 hb.1 hb.2.2 (Nat.le_refl _) with ⟨hz, hrun⟩ | ⟨e, he, w1, hal, hrun⟩
  · refine wpOp_val ho0.1 ho0.2.1 (s := Instr.next (.pointer (some ⟨r, 0, none⟩)) false o0.type) (v := .tuple #[.bool false]) (w' := w) (by simp only [execOp, ho0.2.2.2]; rw [hv]) hrun ?_
    rw [ho0.2.2.1, wpOps_cons]
    have q1 : (a.put (some d1) (.tuple #[.bool false])).eval (.tmp d1) = .tuple #[.bool false] := put_same _ (by rw [sz, h1]; exact hlt.1)
    refine wpOp_val ho1.1 ho1.2.1 (s := Instr.extract (.tuple #[.bool false]) 0) (v := .bool false) (w' := w) (by simp only [execOp, ho1.2.2.2]; rw [q1]) (by simp [Instr.extract]) ?_
    rw [ho1.2.2.1]
    refine h0 (all_seen es seen hz) C _ _ φ F h1 h2 h3 ?_
    rw [ls_put (LS.mk (s.σ.put d1 none) s.H) d2, ls_put s d1]
    exact (h4.put (by rw [h1]; exact hlt.1) (fun y hy => by cases hy)).put (by rw [h1]; exact hlt.2) (fun y hy => by injection hy with hy; subst hy; exact RV.bool false)
  · refine wpOp_val ho0.1 ho0.2.1 (s := Instr.next (.pointer (some ⟨r, 0, none⟩)) false o0.type) (v := .tuple #[.bool true, e.key, e.val]) (w' := _) (by simp only [execOp, ho0.2.2.2]; rw [hv]) hrun ?_
    rw [ho0.2.2.1, wpOps_cons]
    have q1 : (a.put (some d1) (.tuple #[.bool true, e.key, e.val])).eval (.tmp d1) = .tuple #[.bool true, e.key, e.val] := put_same _ (by rw [sz, h1]; exact hlt.1)
    refine wpOp_val ho1.1 ho1.2.1 (s := Instr.extract (.tuple #[.bool true, e.key, e.val]) 0) (v := .bool true) (w' := setBlock w1 r (.mapIter (some b0) clock (seen.push e.born) clock)) (by simp only [execOp, ho1.2.2.2]; rw [q1]) (by simp [Instr.extract]) ?_
    rw [ho1.2.2.1]
    obtain ⟨hem, hes⟩ := mem_left he
    refine hm e hem hes (left_shrinks es seen e he) C _ _ φ F h1 h2 h3 ?_
    have hd1 : Sim C s.st a w1 φ F := by
      rcases hal with rfl | rfl
      · exact h4
      · exact h4.drew
    have hheap : w1.heap = w.heap := by rcases hal with rfl | rfl <;> rfl
    have hrlt : r < w1.heap.size := by rw [hheap]; exact (Array.getElem?_eq_some_iff.1 e1).1
    have hs1 : Sim C (s.st.blk it (some (.obj (.mapIter (some b0) clock (seen.push e.born) clock)))) a (setBlock w1 r (.mapIter (some b0) clock (seen.push e.born) clock)) φ F :=
      hd1.write hφ rfl rfl rfl (by simp [setBlock]) (fun k hk => setBlock_other w1 r _ hk) e2 ⟨setBlock_same w1 r _ hrlt, e2⟩
    rw [ls_put (LS.mk (s.σ.put d1 none) (s.H.put it (some (.obj (.mapIter (some b0) clock (seen.push e.born) clock))))) d2, ls_put (LS.mk s.σ (s.H.put it (some (.obj (.mapIter (some b0) clock (seen.push e.born) clock))))) d1, ls_blk]
    exact (hs1.put (by rw [h1]; exact hlt.1) (fun y hy => by cases hy)).put (by rw [h1]; exact hlt.2) (fun y hy => by injection hy with hy; subst hy; exact RV.bool true)
theorem PRs_get {ag : Nat} {w : World} {F : Nat → Prop} : ∀ {m : List (List Int × PV)} {l : List MapEntry}, PRs ag w F m l → ∀ (j : Nat) (e : MapEntry) (k : List Int) (p : PV), l[j]? = some e → m[j]? = some (k, p) → KI ag k e.key
  | [], [], _, j, e, k, p, h, _ => by simp at h
  | (k', p') :: m, e' :: l, hp, 0, e, k, p, h, h2 => by
    simp at h h2; obtain ⟨rfl, rfl⟩ := h2; subst h; exact hp.1
  | (k', p') :: m, e' :: l, hp, j + 1, e, k, p, h, h2 => PRs_get hp.2.2 j e k p (by simpa using h) (by simpa using h2)
  | [], _ :: _, hp, _, _, _, _, _, _ => hp.elim
  | _ :: _, [], hp, _, _, _, _, _, _ => hp.elim
theorem VRs_ints {φ : Phi} {F : Nat → Prop} {w : World} : ∀ {k : List Int}, (∀ n ∈ k, In64 n) → VRs φ F w (k.map fun n => AV.p (.int .i64 n)) (k.map fun n => Value.int .i64 n)
  | [], _ => by rw [List.map_nil, List.map_nil, VRs]
  | n :: k, h => by
    rw [List.map_cons, List.map_cons, VRs]
    refine ⟨_, _, rfl, ?_, VRs_ints fun n hn => h n (by simp [hn])⟩
    have := h n (by simp)
    unfold In64 at this
    exact RV.int (WalkArith.wf_i64 (by omega))
/-- 'entry', and what follows it in the region. -/
theorem awp_entry {rid d1 d2 t mid ag it b0 clock j : Nat} {ops : Array Oper} (orcs : Orcs) (gs : List Gh) {s s' : LS} {m : List (List Int × PV)} {es : Array MapEntry} {seen : Array Nat} {o0 o1 : Oper} {e : MapEntry} {k : List Int} {p : PV} (hsz : 2 ≤ ops.size)
    (ho0 : ops[0]? = some o0 ∧ o0.guard = none ∧ o0.dst = some d1 ∧ o0.op = .entry (.tmp t)) (ho1 : ops[1]? = some o1 ∧ o1.guard = none ∧ o1.dst = some d2 ∧ o1.op = .extract (.tmp d1) 0)
    (hlt : d1 < nt ∧ d2 < nt) (ht : s.σ.get t = some (.ptr it 0)) (hI : s.H.get it = some (.obj (.mapIter (some b0) clock (seen.push e.born) clock))) (hB : s.H.get mid = some (.ptx ag m es clock b0))
    (hj : es.toList[j]? = some e) (hk : m[j]? = some (k, p)) (hag : ag ≠ 0)
    (hev : evalTailS P nt pins ops 2 orcs gs ⟨(s.σ.put d1 none).put d2 (some (.agg (k.map fun n => AV.p (.int .i64 n)))), s.H⟩ = some s')
    (hco : Holds (condTail P nt pins ops 2 orcs gs ⟨(s.σ.put d1 none).put d2 (some (.agg (k.map fun n => AV.p (.int .i64 n)))), s.H⟩))
    (hd : Done P nt pins Q .normal s') :
    awp P nt pins (.region rid ops false) s Q := fun C a w φ F h1 h2 h3 h4 => by
  obtain ⟨r, N, hφ, hv, e1, e2⟩ := ptr_at h4 ht hI
  obtain ⟨y, hy⟩ := h4.live (show s.st.H mid = some _ from hB)
  have hb : w.heap[b0]? = some (.map es clock) ∧ Stamps es.toList clock ∧ PRs ag w F m es.toList := by
    cases y with
    | none =>
      obtain ⟨x, hx, hs⟩ := h4.own mid _ (show s.st.H mid = some _ from hB)
      rw [hy] at hx; injection hx with hx; subst hx
      obtain ⟨ty, e⟩ := hs; cases e
    | some y =>
      obtain ⟨b, N'⟩ := y
      obtain ⟨⟨q0, q1, _, q3, q4⟩, _⟩ := h4.own_at (show s.st.H mid = some _ from hB) hy
      subst q0; exact ⟨q1, q3, q4⟩
  have hki := PRs_get hb.2.2 j e k p hj hk
  obtain ⟨hin, hki⟩ := hki
  rw [if_neg hag] at hki
  have sz := h4.nt
  refine wp_region ?_
  have hrange : List.range ops.size = 0 :: 1 :: List.range' 2 (ops.size - 2) := by
    rw [List.range_eq_range']
    obtain ⟨q, hq⟩ : ∃ q, ops.size = q + 2 := ⟨ops.size - 2, by omega⟩
    rw [hq]; rfl
  rw [hrange, wpOps_cons]
  refine wpOp_val ho0.1 ho0.2.1 (s := Instr.entry (.pointer (some ⟨r, 0, none⟩))) (v := .tuple #[e.key, e.val]) (w' := w) (by simp only [execOp, ho0.2.2.2]; rw [hv]) (run_entry_at w r b0 clock seen es clock e e1 hb.1 (List.mem_of_getElem? hj) hb.2.1.1) ?_
  rw [ho0.2.2.1, wpOps_cons]
  have q1 : (a.put (some d1) (.tuple #[e.key, e.val])).eval (.tmp d1) = .tuple #[e.key, e.val] := put_same _ (by rw [sz, h1]; exact hlt.1)
  refine wpOp_val ho1.1 ho1.2.1 (s := Instr.extract (.tuple #[e.key, e.val]) 0) (v := e.key) (w' := w) (by simp only [execOp, ho1.2.2.2]; rw [q1]) (by simp [Instr.extract]) ?_
  rw [ho1.2.2.1]
  refine tail_sound (φ := φ) (F := F) h1 h2 h3 hev hco.h ?_ (fun a' w' φ' F' hs' => hd C a' w' φ' F' h1 h2 h3 hs')
  rw [ls_put (LS.mk (s.σ.put d1 none) s.H) d2, ls_put s d1]
  refine (h4.put (by rw [h1]; exact hlt.1) (fun y hy => by cases hy)).put (by rw [h1]; exact hlt.2) (fun y hy => ?_)
  injection hy with hy; subst hy
  refine ⟨_, hki.2, VRs_ints hin, fun u hu => ?_⟩
  rw [List.mem_map] at hu
  obtain ⟨n, _, rfl⟩ := hu
  rfl
end
end Go.AM
end
section
namespace Go.AM
open Go
abbrev Cracks := List (Pt × List Int)
def rowM (p : Pt) : Cracks → List Int
  | [] => []
  | (q, l) :: m => if p = q then l else rowM p m
def addM (p : Pt) (h : Int) : Cracks → Cracks
  | [] => [(p, [h])]
  | (q, l) :: m => if p = q then (p, l ++ [h]) :: m else (q, l) :: addM p h m
def keyM (p : Pt) : List Int := [p.x, p.y]
def encM (m : Cracks) : List (List Int × List PV × Nat) := m.map fun e => (keyM e.1, e.2.flatMap iC, e.2.length)
theorem keyM_inj {p q : Pt} : keyM p = keyM q ↔ p = q := by
  cases p; cases q; simp [keyM]
theorem tApp_encM (p : Pt) (h : Int) : ∀ (m : Cracks), tApp (keyM p) (vI h) (encM m) = encM (addM p h m)
  | [] => rfl
  | (q, l) :: m => by
    have ih := tApp_encM p h m
    simp only [encM, List.map_cons, tApp, addM, keyM_inj] at ih ⊢
    by_cases e : p = q
    · subst e; simp [List.flatMap_append, iC]
    · simp [e, ih]
theorem tRow_encM (p : Pt) : ∀ (m : Cracks), tRow (keyM p) (encM m) = ((rowM p m).flatMap iC, (rowM p m).length)
  | [] => rfl
  | (q, l) :: m => by
    have ih := tRow_encM p m
    simp only [encM, List.map_cons, tRow, rowM, keyM_inj] at ih ⊢
    by_cases e : p = q
    · simp [e]
    · simp [e, ih]
def keyPt (p : Pt) : List Int := [p.x, p.y]
def keyCell (p : Cell) : List Int := [p.x, p.y]
def keyI (n : Int) : List Int := [n]
theorem keyPt_inj (p q : Pt) : keyPt p = keyPt q ↔ p = q := by cases p; cases q; simp [keyPt]
theorem keyCell_inj (p q : Cell) : keyCell p = keyCell q ↔ p = q := by cases p; cases q; simp [keyCell]
theorem keyI_inj (p q : Int) : keyI p = keyI q ↔ p = q := by simp [keyI]
/-! Maps as lists of entries. -/
section
variable {κ β : Type} [DecidableEq κ]
def encT (kf : κ → List Int) (vf : β → PV) (m : List (κ × β)) : List (List Int × PV) := m.map fun e => (kf e.1, vf e.2)
def getT (d : β) (k : κ) : List (κ × β) → β
  | [] => d
  | (q, l) :: m => if k = q then l else getT d k m
def setT (k : κ) (x : β) : List (κ × β) → List (κ × β)
  | [] => [(k, x)]
  | (q, l) :: m => if k = q then (k, x) :: m else (q, l) :: setT k x m
def delT (k : κ) : List (κ × β) → List (κ × β)
  | [] => []
  | (q, l) :: m => if k = q then m else (q, l) :: delT k m
variable {kf : κ → List Int}
theorem tGet_encT (hk : ∀ p q, kf p = kf q ↔ p = q) (vf : β → PV) (d : β) (p : κ) : ∀ (m : List (κ × β)), (tGet (kf p) (encT kf vf m)).getD (vf d) = vf (getT d p m)
  | [] => rfl
  | (q, l) :: m => by
    have ih := tGet_encT hk vf d p m
    simp only [tGet, encT, List.map_cons, tIdx, getT, hk] at ih ⊢
    by_cases e : p = q
    · simp [e]
    · simp only [e, if_false]
      rw [← ih]
      cases tIdx (kf p) (m.map fun e => (kf e.1, vf e.2)) <;> rfl
theorem tSet_encT (hk : ∀ p q, kf p = kf q ↔ p = q) (vf : β → PV) (p : κ) (x : β) : ∀ (m : List (κ × β)), tSet (kf p) (vf x) (encT kf vf m) = encT kf vf (setT p x m)
  | [] => rfl
  | (q, l) :: m => by
    have ih := tSet_encT hk vf p x m
    simp only [encT, List.map_cons, tSet, setT, hk] at ih ⊢
    by_cases e : p = q
    · subst e; simp
    · simp [e, ih]
theorem tDel_encT (hk : ∀ p q, kf p = kf q ↔ p = q) (vf : β → PV) (p : κ) : ∀ (m : List (κ × β)), tDel (kf p) (encT kf vf m) = encT kf vf (delT p m)
  | [] => rfl
  | (q, l) :: m => by
    have ih := tDel_encT hk vf p m
    simp only [encT, List.map_cons, tDel, delT, hk] at ih ⊢
    by_cases e : p = q
    · simp [e]
    · simp [e, ih]
theorem get_told (hk : ∀ p q, kf p = kf q ↔ p = q) (vf : β → PV) (d : β) (p : κ) (m : List (κ × β)) : some (AV.p ((tGet (kf p) (encT kf vf m)).getD (vf d))) = some (AV.p (vf (getT d p m))) := by rw [tGet_encT hk]
theorem set_told (hk : ∀ p q, kf p = kf q ↔ p = q) (vf : β → PV) (p : κ) (x : β) (m : List (κ × β)) (ag : Nat) : some (ABlk.ptab ag (tSet (kf p) (vf x) (encT kf vf m))) = some (ABlk.ptab ag (encT kf vf (setT p x m))) := by rw [tSet_encT hk]
theorem del_told (hk : ∀ p q, kf p = kf q ↔ p = q) (vf : β → PV) (p : κ) (m : List (κ × β)) (ag : Nat) : some (ABlk.ptab ag (tDel (kf p) (encT kf vf m))) = some (ABlk.ptab ag (encT kf vf (delT p m))) := by rw [tDel_encT hk]
end
theorem frz_told (m : Cracks) (ag : Nat) : some (ABlk.ptab ag (pureTab (encM m))) = some (ABlk.ptab ag (encT keyPt (encL iC) m)) := by
  congr 2
  simp only [pureTab, encM, encT, List.map_map]
  rfl
theorem idx_map {l : List Int} {i : Nat} {x : Int} (h : l[i]? = some x) : (l.map fun n => pI n)[i]? = some (pI x) := by rw [List.getElem?_map, h]; rfl
def cracks_add (m : Cracks) (p : Pt) (h : Int) : Option Cracks := chk ((rowM p m).length ≤ 1099511627776) (some (addM p h m))
end Go.AM
end
section
namespace Go.AM
open Go Go.RowKit
abbrev Old (W : World) : Nat → Prop := fun b => b < W.heap.size
/-- Cells that read as cs a. -/
def CellsAs (W : World) (l : List Value) (ps : List PV) : Prop := l.length = ps.length ∧ ∀ (j : Nat) (p : PV), ps[j]? = some p → ∃ v, l[j]? = some v ∧ RV W (Old W) v p
/-- Whatever reads at type t reads as some a. -/
def Rds (P : Program) (t : TypeId) {α : Type} (cs : α → List PV) : Prop :=
  ∀ (H : Type) (enc : TypeId × Value → H) (W : World) (sp : Nat → Bool) (held : Bool) (n : Nat) (l : List Value) (y : DataW H × List MemPlace), DataW.trod enc P W 0 sp held n t l = some y → ∃ a : α, CellsAs W l (cs a)
section
variable {P : Program} {t : TypeId}
theorem Rds.map {α β : Type} {cs : α → List PV} {cs' : β → List PV} (h : Rds P t cs) (g : α → β) (hg : ∀ a, cs' (g a) = cs a) : Rds P t cs' := fun H enc W sp held n l y hy => by
  obtain ⟨a, ha⟩ := h H enc W sp held n l y hy
  exact ⟨g a, by rw [hg]; exact ha⟩
theorem CellsAs.one {W : World} {v : Value} {p : PV} (h : RV W (Old W) v p) : CellsAs W [v] [p] := ⟨rfl, fun j q hq => by
  cases j with
  | zero => simp at hq; subst hq; exact ⟨v, rfl, h⟩
  | succ j => simp at hq⟩
theorem CellsAs.append {W : World} {l l' : List Value} {p p' : List PV} (h : CellsAs W l p) (h' : CellsAs W l' p') : CellsAs W (l ++ l') (p ++ p') := ⟨by simp [h.1, h'.1], fun j q hq => by
  rw [List.getElem?_append] at hq
  split at hq
  · rename_i hj
    obtain ⟨v, h1, h2⟩ := h.2 j q hq
    exact ⟨v, by rw [List.getElem?_append_left (by rw [h.1]; exact hj)]; exact h1, h2⟩
  · rename_i hj
    obtain ⟨v, h1, h2⟩ := h'.2 _ q hq
    exact ⟨v, by rw [List.getElem?_append_right (by rw [h.1]; omega), h.1]; exact h1, h2⟩⟩
theorem rds_int {k : IntKind} (ht : P.underlying t = some (.int k)) : Rds P t (fun n : Int => [PV.int k n]) := fun H enc W sp held n l y hy => by
  obtain ⟨m, rfl, _, hw⟩ := DataW.trod_int ht hy
  exact ⟨m, CellsAs.one (.int hw)⟩
theorem rds_bool (ht : P.underlying t = some .bool) : Rds P t bC := fun H enc W sp held n l y hy => by
  obtain ⟨b, rfl, _⟩ := DataW.trod_bool ht hy
  exact ⟨b, CellsAs.one (.bool b)⟩
theorem cells?_get {W : World} {base : Nat} {a : Addr} {n : Nat} {l : List Value} (h : W.cells? base a n = some l) : l.length = n ∧ ∀ j, j < n → W.cell? (a.add j) = l[j]? := by
  unfold World.cells? at h
  split at h
  · have h1 := mapM_some_length h
    rw [List.length_range] at h1
    exact ⟨h1, fun j hj => mapM_some_get h j j (by simp [hj])⟩
  · cases h
theorem cell_old {W : World} {a : Addr} {v : Value} (h : W.cell? a = some v) : a.block < W.heap.size := by
  unfold World.cell? at h
  split at h
  · rename_i hh; exact (Array.getElem?_eq_some_iff.1 hh).1
  · cases h
theorem choose_list {α : Type} {R : Nat → α → Prop} : ∀ (n : Nat), (∀ i, i < n → ∃ a, R i a) → ∃ l : List α, l.length = n ∧ ∀ i a, l[i]? = some a → R i a
  | 0, _ => ⟨[], rfl, fun i a h => by simp at h⟩
  | n + 1, h => by
    obtain ⟨l, hl, hr⟩ := choose_list n fun i hi => h i (by omega)
    obtain ⟨a, ha⟩ := h n (by omega)
    refine ⟨l ++ [a], by simp [hl], fun i b hb => ?_⟩
    rw [List.getElem?_append] at hb
    split at hb
    · exact hr i b hb
    · rename_i hi
      have : i = n := by
        have := (List.getElem?_eq_some_iff.1 hb).1
        simp at this; omega
      subst this
      rw [hl, Nat.sub_self] at hb
      simp at hb; subst hb; exact ha
theorem rds_slice {e k : Nat} {α : Type} {cs : α → List PV} (ht : P.underlying t = some (.slice e)) (he : Rds P e cs) (hk : ∀ a, (cs a).length = k) (hP : P.cellsOf e = k) (k0 : 0 < k) : Rds P t (fun l : List α => [encL cs l]) := fun H enc W sp held n l y hy => by
  have hs := DataW.trod_slice ht hy
  rcases hs with ⟨rfl, _⟩ | hs
  · exact ⟨[], CellsAs.one (RV.sl (fun _ => undef) (Nat.le_refl 0) (by unfold maxLen; omega) (fun _ => rfl) (fun h => absurd rfl h) (fun j p hp => by simp at hp))⟩
  · obtain ⟨a, len, cap, elems, rest, m, _, rfl, _, _, hlc, hcap, hlen, hel, _, _⟩ := hs
    have hx : ∀ i, i < len → ∃ x : α, ∀ (j : Nat) (p : PV), (cs x)[j]? = some p → ∃ v, W.cell? (a.add (i * k + j)) = some v ∧ RV W (Old W) v p := fun i hi => by
      have h1 := hel i hi
      rw [List.getElem?_eq_getElem (by rw [hlen]; exact hi), Option.bind_eq_some_iff] at h1
      obtain ⟨l, hl, hl2⟩ := h1
      obtain ⟨q1, q2⟩ := cells?_get hl
      obtain ⟨x, q3, q4⟩ := he H enc W sp held m l _ hl2
      refine ⟨x, fun j p hp => ?_⟩
      obtain ⟨v, q5, q6⟩ := q4 j p hp
      have hj : j < k := by rw [← hk x]; exact (List.getElem?_eq_some_iff.1 hp).1
      refine ⟨v, ?_, q6⟩
      rw [← q5, ← q2 j (by rw [hP]; exact hj), hP, add_add]
    obtain ⟨l, hl, hr⟩ := choose_list len hx
    refine ⟨l, CellsAs.one ?_⟩
    have hfl := flat_len hk l
    have key : ∀ (j : Nat) (p : PV), (l.flatMap cs)[j]? = some p → ∃ v, W.cell? (a.add j) = some v ∧ RV W (Old W) v p := fun j p hp => by
      have hj : j < l.length * k := by rw [← hfl]; exact (List.getElem?_eq_some_iff.1 hp).1
      have hq : j / k < l.length := by rw [Nat.div_lt_iff_lt_mul k0]; exact hj
      have hm : j % k < k := Nat.mod_lt _ k0
      have e : j / k * k + j % k = j := by rw [Nat.mul_comm]; exact Nat.div_add_mod j k
      have hx : l[j / k]? = some l[j / k] := List.getElem?_eq_getElem hq
      have h1 := flat_at hk l (j / k) _ hx (j % k) hm
      rw [e, hp] at h1
      obtain ⟨v, q1, q2⟩ := hr _ _ hx (j % k) p h1.symm
      rw [e] at q1
      exact ⟨v, q1, q2⟩
    unfold encL
    rw [hl]
    refine RV.sl (fun j => ((W.cell? (a.add j)).getD undef)) hlc hcap (fun h => by cases h) (fun hne => ⟨a, rfl, ?_, fun j hj => ?_⟩) (fun j p hp => ?_)
    · have h0 : 0 < (l.flatMap cs).length := List.length_pos_iff.2 hne
      obtain ⟨v, q1, _⟩ := key 0 _ (List.getElem?_eq_getElem h0)
      have := cell_old q1
      rwa [block_add] at this
    · obtain ⟨v, q1, _⟩ := key j _ (List.getElem?_eq_getElem hj)
      rw [q1]; rfl
    · obtain ⟨v, q1, q2⟩ := key j p hp
      rw [q1]; exact q2
theorem piece {l : List Value} {o k : Nat} {W : World} {ps : List PV} (h : CellsAs W ((l.drop o).take k) ps) : ∀ (j : Nat) (p : PV), ps[j]? = some p → ∃ v, l[o + j]? = some v ∧ RV W (Old W) v p := fun j p hp => by
  obtain ⟨v, h1, h2⟩ := h.2 j p hp
  refine ⟨v, ?_, h2⟩
  rw [List.getElem?_take] at h1
  split at h1
  · rw [List.getElem?_drop] at h1; exact h1
  · cases h1
theorem rds_struct1 {f0 : Field} {α : Type} {c0 : α → List PV} {k0 : Nat} (ht : P.underlying t = some (.struct #[f0])) (h0 : Rds P f0.type c0) (_hk0 : ∀ a, (c0 a).length = k0) (ho0 : f0.offset = 0) (hc0 : P.cellsOf f0.type = k0) (hc : P.cellsOf t = k0) : Rds P t c0 := fun H enc W sp held n l y hy => by
  obtain ⟨xs, m, _, _, hl, hx, hf⟩ := DataW.trod_struct ht hy
  have h := hf 0 f0 rfl
  rw [List.getElem?_eq_getElem (by rw [hx]; exact Nat.le_of_ble_eq_true rfl), ho0, hc0, List.drop_zero, List.take_of_length_le (by omega)] at h
  obtain ⟨a, ha⟩ := h0 H enc W sp held m _ _ h
  exact ⟨a, ha⟩
theorem rds_struct2 {f0 f1 : Field} {α β : Type} {c0 : α → List PV} {c1 : β → List PV} {k0 k1 : Nat} (ht : P.underlying t = some (.struct #[f0, f1])) (h0 : Rds P f0.type c0) (h1 : Rds P f1.type c1) (hk0 : ∀ a, (c0 a).length = k0) (hk1 : ∀ a, (c1 a).length = k1)
    (ho0 : f0.offset = 0) (ho1 : f1.offset = k0) (hc0 : P.cellsOf f0.type = k0) (hc1 : P.cellsOf f1.type = k1) (hc : P.cellsOf t = k0 + k1) : Rds P t (fun x : α × β => c0 x.1 ++ c1 x.2) := fun H enc W sp held n l y hy => by
  obtain ⟨xs, m, _, _, hl, hx, hf⟩ := DataW.trod_struct ht hy
  have q0 := hf 0 f0 rfl
  have q1 := hf 1 f1 rfl
  rw [List.getElem?_eq_getElem (by rw [hx]; exact Nat.le_of_ble_eq_true rfl)] at q0 q1
  rw [ho0, hc0] at q0
  rw [ho1, hc1] at q1
  obtain ⟨a, ha⟩ := h0 H enc W sp held m _ _ q0
  obtain ⟨b, hb⟩ := h1 H enc W sp held m _ _ q1
  refine ⟨(a, b), by simp only [List.length_append, hk0, hk1]; omega, fun j p hp => ?_⟩
  simp only at hp
  rw [List.getElem?_append] at hp
  split at hp
  · obtain ⟨v, e1, e2⟩ := piece ha j p hp
    exact ⟨v, by rw [Nat.zero_add] at e1; exact e1, e2⟩
  · rename_i hj
    obtain ⟨v, e1, e2⟩ := piece hb _ p hp
    rw [hk0] at e1 hj
    exact ⟨v, by rw [show k0 + (j - k0) = j by omega] at e1; exact e1, e2⟩
/-- A value that is one cell, read. -/
theorem vr_one {φ : Phi} {α : Type} {cs : α → List PV} (h : Rds P t cs) {H : Type} {enc : TypeId × Value → H} {W : World} {sp : Nat → Bool} {held : Bool} {v : Value} {d : DataW H} {p : List MemPlace} (hd : DataW.Trod enc P W 0 sp held t v d p) (hone : v.cells = #[v]) :
    ∃ a : α, ∀ x, cs a = [x] → VR φ (Old W) W (.p x) v := by
  obtain ⟨n, hn⟩ := hd
  rw [hone] at hn
  obtain ⟨a, ha⟩ := h H enc W sp held n _ _ hn
  refine ⟨a, fun x hx => ?_⟩
  obtain ⟨u, h1, h2⟩ := ha.2 0 x (by rw [hx]; rfl)
  simp at h1; subst h1; exact h2
/-- A struct by value, read. -/
theorem vr_agg {φ : Phi} {α : Type} {cs : α → List PV} (h : Rds P t cs) {fs : Array Field} (ht : P.underlying t = some (.struct fs)) {H : Type} {enc : TypeId × Value → H} {W : World} {sp : Nat → Bool} {held : Bool} {v : Value} {d : DataW H} {p : List MemPlace} {r : Reach} {base : Nat} (hv : Value.okWide P W r base t v)
    (hd : DataW.Trod enc P W 0 sp held t v d p) : ∃ a : α, VR φ (Old W) W (.agg ((cs a).map AV.p)) v := by
  obtain ⟨arr, rfl, hsz⟩ := Go.WideShapes.okWide_struct ht hv
  obtain ⟨n, hn⟩ := hd
  have e : (Value.agg arr).cells.toList = arr.toList := rfl
  rw [e] at hn
  obtain ⟨a, ha⟩ := h H enc W sp held n _ _ hn
  refine ⟨a, arr.toList, rfl, VRs.mk (by rw [List.length_map]; exact ha.1) (fun j x u hx hu => ?_), fun u hu => ?_⟩
  · rw [List.getElem?_map] at hx
    obtain ⟨p, hp, rfl⟩ := Option.map_eq_some_iff.1 hx
    obtain ⟨u', h1, h2⟩ := ha.2 j p hp
    rw [hu] at h1; injection h1 with h1; subst h1; exact h2
  · obtain ⟨j, hj⟩ := List.mem_iff_getElem?.1 hu
    have hjl : j < (cs a).length := by rw [← ha.1]; exact (List.getElem?_eq_some_iff.1 hj).1
    obtain ⟨u', h1, h2⟩ := ha.2 j _ (List.getElem?_eq_getElem hjl)
    rw [hj] at h1; injection h1 with h1; subst h1; exact h2.oneCell
/-- What a law's contract gives at a call from outside. -/
theorem law_calls {f : Nat} {args : List AV} {b : Bool} (hs : ASpec P f args [] (.p (.bool b)) []) (W : World) {vs : List Value} (hv : VRs (fun _ => none) (Old W) W args vs) : Calls P f vs.toArray W fun e w' => e = .returned (.bool b) ∧ Below W.heap.size W w' := by
  refine (hs.2 W vs (fun _ => none) (Old W) (fun b hb => hb) (fun id B hB => by cases hB) (fun id x hx => by cases hx) (fun _ _ _ _ _ h => by cases h) (fun _ _ _ _ _ _ _ h => by cases h) (fun _ _ _ h => by cases h) hv).mono ?_
  rintro e w' ⟨v, φ', F', rfl, hA, hr⟩
  have hr' : RV w' F' v (.bool b) := hr
  cases hr'
  exact ⟨rfl, hA.os, hA.tape, hA.output, hA.size, fun k hk => hA.old k hk fun id b' N h => by cases h⟩
end
end Go.AM
namespace Go.AM
open Go Go.RowKit Go.WideShapes Go.ChangeShapes
section
variable {H : Type} {enc : TypeId × Value → H} {P : Program}
/-- Arguments read as they did, where the call has only added. -/
theorem trodAll_stays (hl : laidOutB P = true) {W W' : World} (hb : Below W.heap.size W W') : ∀ {ts : List TypeId} {vs : List Value} {ds : List (DataW H)} {ps : List MemPlace}, (∀ t ∈ ts, P.readableRec t = true ∧ t < P.types.size) →
    DataW.TrodAll enc P W 0 (fun _ => true) true ts vs ds ps → (∀ x ∈ ps, x.block < W.heap.size) → ∀ sp : Nat → Bool, (∀ x ∈ ps, sp x.block = true) → DataW.TrodAll enc P W' 0 sp true ts vs ds ps
  | [], vs, ds, ps, _, h, _, sp, _ => by
    obtain ⟨rfl, rfl, rfl⟩ := trodAll_nil h
    exact h
  | t :: ts, vs, ds, ps, ht, h, hlt, sp, hsp => by
    obtain ⟨v, vs', d, ds', p, q, rfl, rfl, rfl, h1, h2⟩ := trodAll_cons h
    have ht0 := ht t (by simp)
    refine ⟨p, q, WideElems.Trod_stays hl ht0.1 ht0.2 h1 (fun x hx => hb.same (hlt x (by simp [hx]))) (fun x hx => hsp x (by simp [hx])), trodAll_stays hl hb (fun t ht' => ht t (by simp [ht'])) h2 (fun x hx => hlt x (by simp [hx])) sp (fun x hx => hsp x (by simp [hx])), rfl⟩
theorem post_of_below {f : Func} {s : ChangeSpec} {apart fresh handsOn again : Bool} {W W' : World} {args : Array Value} {v : Value} {ds gs : List (DataW H)} {before pa pv : List MemPlace}
    (hW : DataW.Whole enc P f.params.toList s.vars apart W args.toList ds gs before)
    (hres : ∀ (b : Nat) (sp : Nat → Bool) (hd : Bool), DataW.TrodAll enc P W' b sp hd f.resultTypes.toList (v.resultList f.resultTypes.size) (s.fn H (ds ++ gs)).results [])
    (hargs : ∀ sp : Nat → Bool, (∀ p ∈ before, sp p.block = true) → DataW.TrodAll enc P W' 0 sp true f.params.toList args.toList (s.fn H (ds ++ gs)).args pa)
    (hvars : ∀ sp : Nat → Bool, (∀ p ∈ before, sp p.block = true) → DataW.TrodVars enc P W' sp s.vars (s.fn H (ds ++ gs)).vars pv)
    (hps : before = pa ++ pv) (hb : Below W.heap.size W W')
    (hok : ∀ (j : Nat) (t : TypeId) (r : Value), f.resultTypes[j]? = some t → (v.resultList f.resultTypes.size)[j]? = some r → Value.okWide P W' .any 0 t r) :
    s.post enc P f apart fresh handsOn again W args v W' := by
  have hlt : ∀ p ∈ before, p.block < W.heap.size := fun p hp => hW.lt p hp
  have hold : ∀ p ∈ before, (fun b => decide (b < W.heap.size)) p.block = true := fun p hp => by simpa using hlt p hp
  refine ⟨ds, gs, before, [], pa, pv, hW, hres _ _ _, hargs _ hold, hvars _ hold, World.keptBut_mono (fun p hp => ⟨hp, ?_⟩) (hb.frame (· ∈ before)), fun _ => ?_⟩
  · rw [hps, List.mem_append] at hp
    exact Or.inr hp
  · obtain ⟨_, _, _, _, _, hz, hn⟩ := hW
    refine ⟨hok, _, _, ([] ++ pa) ++ pv, ⟨[] ++ pa, pv, trodAll_append (hargs _ (fun _ _ => rfl)) (hres _ _ _), hvars _ (fun _ _ => rfl), rfl, ?_, ?_⟩, ?_⟩
    · intro b off hp
      have hin : MemPlace.cell b off ∈ before := by rw [hps]; simpa using hp
      rw [hb.frozen (hlt _ hin)]
      exact hz b off hin
    · intro ha
      have := hn ha
      rw [hps] at this
      simpa using this
    · intro p hp _
      rw [hps]
      simpa using hp
/-- A law's row, out of what its call gives. -/
theorem law_post (hl : laidOutB P = true) {f : Func} {s : ChangeSpec} {W W' : World} {args : Array Value} {ds gs : List (DataW H)} {before : List MemPlace} {tb : TypeId} (hbool : P.underlying tb = some .bool) (hr : f.resultTypes = #[tb]) (hvars : s.vars = [])
    (hread : ∀ t ∈ f.params.toList, P.readableRec t = true ∧ t < P.types.size) (hW : DataW.Whole enc P f.params.toList s.vars false W args.toList ds gs before) (hres : (s.fn H ds).results = [.lit (.bool true)]) (hargs : (s.fn H ds).args = ds) (hvs : (s.fn H ds).vars = [])
    (hb : Below W.heap.size W W') : s.post enc P f false true false false W args (.bool true) W' := by
  have hW' := hW
  obtain ⟨p, q, hA, hV, rfl, hfz, hnd⟩ := hW
  rw [hvars] at hV
  obtain ⟨rfl, rfl⟩ := trodVars_none hV
  have hlt : ∀ x ∈ p, x.block < W.heap.size := fun x hx => hW'.lt x (by simp [hx])
  have e : ds ++ ([] : List (DataW H)) = ds := List.append_nil _
  refine post_of_below (pa := p) (pv := []) hW' (fun _ _ _ => ?_) (fun sp hsp => ?_) (fun _ _ => ?_) rfl hb (fun j t r ht hr' => ?_)
  · rw [e, hres, hr]
    exact trodAll_cons_mk (shut_bool hbool true) trodAll_mk0
  · rw [e, hargs]
    exact trodAll_stays hl hb hread hA hlt sp fun x hx => hsp x (by simp [hx])
  · rw [e, hvs, hvars]; exact rfl
  · rw [hr] at ht hr'
    cases j with
    | zero =>
      simp at ht; subst ht
      have : r = .bool true := by simpa [Value.resultList] using hr'.symm
      subst this
      exact okWide_bool_mk hbool true
    | succ j => simp at ht
end
end Go.AM
namespace Go.AM
open Go Go.RowKit
/-- What can be read: integers of their kinds, lengths that fit. -/
inductive POk : PV → Prop where
  | int {k : IntKind} {n : Int} (h : (Lit.int k n).wf = true) : POk (.int k n)
  | bool (b : Bool) : POk (.bool b)
  | sl {cs : List PV} {n : Nat} (hn : n ≤ maxLen) (h : ∀ (j : Nat) (p : PV), cs[j]? = some p → POk p) : POk (.sl cs n)
  | str (s : ByteArray) : POk (.str s)
  | fn (f : Nat) : POk (.fn f)
theorem RV.ok {w : World} {F : Nat → Prop} {v : Value} {p : PV} (h : RV w F v p) : POk p := by
  induction h with
  | int h => exact .int h
  | bool b => exact .bool b
  | str h => exact .str _
  | sl vs hn hc hz ha _ ih => exact .sl (Nat.le_trans hn hc) ih
  | fn f => exact .fn f
theorem POk.i64 {n : Int} (h : POk (vI n)) : In64 n := by
  cases h with
  | int h =>
    have : (Lit.int .i64 n).wf = true := h
    simp [Lit.wf, IntKind.min, IntKind.max, IntKind.signed, IntKind.bits] at this
    unfold In64; omega
theorem POk.u8 {n : Int} (h : POk (.int .u8 n)) : 0 ≤ n ∧ n ≤ 255 := by
  cases h with
  | int h =>
    simp [Lit.wf, IntKind.min, IntKind.max, IntKind.signed, IntKind.bits] at h
    omega
theorem POk.row {α : Type} {cs : α → List PV} {l : List α} (h : POk (encL cs l)) : l.length ≤ maxLen ∧ ∀ a ∈ l, ∀ p ∈ cs a, POk p := by
  unfold encL at h
  cases h with
  | sl hn h =>
    refine ⟨hn, fun a ha p hp => ?_⟩
    have : p ∈ l.flatMap cs := List.mem_flatMap.2 ⟨a, ha, hp⟩
    obtain ⟨j, hj⟩ := List.mem_iff_getElem?.1 this
    exact h j p hj
theorem Region.ok_of {r : Region} (h : POk (encL Row.cs r.rows)) : r.Ok := by
  obtain ⟨h1, h2⟩ := h.row
  refine ⟨h1, fun w hw => ?_⟩
  have q0 := h2 w hw (vI w.y) (by simp [Row.cs])
  have q1 := h2 w hw (encL Run.cs w.runs) (by simp [Row.cs])
  obtain ⟨h3, h4⟩ := q1.row
  exact ⟨q0.i64, h3, fun x hx => ⟨(h4 x hx (vI x.frm) (by simp [Run.cs])).i64, (h4 x hx (vI x.to) (by simp [Run.cs])).i64⟩⟩
theorem Region.ok_vr {φ : Phi} {F : Nat → Prop} {W : World} {r : Region} {v : Value} (h : VR φ F W (.agg (r.cs.map AV.p)) v) : r.Ok := by
  obtain ⟨us, _, h1, _⟩ := h
  rw [Region.cs, List.map_cons, VRs] at h1
  obtain ⟨u, _, _, h2, _⟩ := h1
  exact Region.ok_of (RV.ok h2)
theorem int_ok_vr {φ : Phi} {F : Nat → Prop} {W : World} {n : Int} {v : Value} (h : VR φ F W (.p (vI n)) v) : In64 n := POk.i64 (RV.ok h)
end Go.AM
end
section
namespace Go.AM
open Go Go.RowKit
section
variable {α : Type} {ic : α → List Int} {k : Nat}
/-- The cells of a struct of integers. -/
def icV (ic : α → List Int) (a : α) : List Value := (ic a).map fun n => Value.int .i64 n
def icP (ic : α → List Int) (a : α) : List PV := (ic a).map fun n => PV.int .i64 n
theorem icP_len (hk : ∀ a, (ic a).length = k) (a : α) : (icP ic a).length = k := by simp [icP, hk]
theorem icP_int {l : List α} {t : Nat} {p : PV} (h : (l.flatMap (icP ic))[t]? = some p) : ∃ x ∈ l, ∃ n ∈ ic x, p = .int .i64 n := by
  have := List.mem_of_getElem? h
  rw [List.mem_flatMap] at this
  obtain ⟨x, hx, hp⟩ := this
  rw [icP, List.mem_map] at hp
  obtain ⟨n, hn, rfl⟩ := hp
  exact ⟨x, hx, n, hn, rfl⟩
variable [Inhabited α]
theorem flatK_icV (hk : ∀ a, (ic a).length = k) (l : List α) (t : Nat) (n : Int) (h : (l.flatMap (icP ic))[t]? = some (.int .i64 n)) : (Go.Sort.flatK (icV ic) k l.toArray)[t]? = some (Value.int .i64 n) := by
  have hlen := flat_len (icP_len hk) l
  have ht : t < l.length * k := by
    have := (List.getElem?_eq_some_iff.1 h).1
    omega
  have k0 : 0 < k := by
    rcases Nat.eq_zero_or_pos k with h0 | h0
    · subst h0; simp at ht
    · exact h0
  have hq : t / k < l.length := by rw [Nat.div_lt_iff_lt_mul k0]; exact ht
  have hr : t % k < k := Nat.mod_lt _ k0
  obtain ⟨x, hx⟩ : ∃ x, l[t / k]? = some x := ⟨l[t / k], List.getElem?_eq_getElem hq⟩
  have h1 := flat_at (icP_len hk) l (t / k) x hx (t % k) hr
  rw [show t / k * k + t % k = t by rw [Nat.mul_comm]; exact Nat.div_add_mod t k, h] at h1
  have h2 : (ic x)[t % k]? = some n := by
    rw [icP, List.getElem?_map] at h1
    cases hc : (ic x)[t % k]? with
    | none => rw [hc] at h1; simp at h1
    | some m => rw [hc] at h1; simp at h1; rw [h1]
  have hs : t < (Go.Sort.flatK (icV ic) k l.toArray).size := by simp; omega
  have h3 := Go.Sort.get_flatK (icV ic) k l.toArray t (by simpa using ht)
  rw [getElem!_pos _ t hs] at h3
  rw [Array.getElem?_eq_getElem hs, h3]
  have h4 : l.toArray[t / k]! = x := by
    rw [getElem!_pos _ _ (by simpa using hq)]
    simp only [List.getElem_toArray]
    rw [List.getElem?_eq_getElem hq] at hx
    exact Option.some.inj hx
  rw [h4]
  have h5 : (icV ic x)[t % k]? = some (Value.int .i64 n) := by simp [icV, h2]
  rw [List.getElem!_eq_getElem?_getD, h5]
  rfl
theorem mapBlock_get (w : World) (blk : Nat) (f : Array Value → Array Value) (b : Nat) (hb : b ≠ blk) : (Go.Sort.mapBlock w blk f).heap[b]? = w.heap[b]? := by
  simp only [Go.Sort.mapBlock, Array.getElem?_modify, if_neg (Ne.symm hb)]
theorem mapBlock_at (w : World) (blk : Nat) (f : Array Value → Array Value) {cur : Array Value} {ty : TypeId} {fr : Nat × Nat} (h : w.heap[blk]? = some (.cells cur ty fr)) : (Go.Sort.mapBlock w blk f).heap[blk]? = some (.cells (f cur) ty fr) := by
  simp only [Go.Sort.mapBlock, Array.getElem?_modify, if_pos, h, Option.map_some, Go.Sort.onCells]
theorem grow_get (w : World) (os : Array Obj) {b : Nat} (hb : b < w.heap.size) : (Go.Sort.grow w os).heap[b]? = w.heap[b]? := by
  simp only [Go.Sort.grow, Array.getElem?_append_left hb]
/-- SortFunc's contract in the kit's words, for a list and an order. -/
def SortCall (P : Program) (f g : Nat) (enc : α → List Value) (k : Nat) (l l' : List α) : Prop :=
  ∀ (w : World) (blk cap : Nat), Go.Sort.HoldsK enc k w blk 0 l.toArray → blk < w.heap.size →
    Calls P f #[.slice (some ⟨blk, 0, none⟩) l.length cap, .func (.func g) #[] #[]] w fun e w' => e = .returned (.tuple #[]) ∧ ∃ n os, w' = Go.Proofs.sortWorldK enc k w blk 0 n l'.toArray os
/-- .. at no element. -/
def SortNone (P : Program) (f g : Nat) : Prop :=
  ∀ (w : World) (p : Option Addr) (cap : Nat), Calls P f #[.slice p 0 cap, .func (.func g) #[] #[]] w fun e w' => e = .returned (.tuple #[]) ∧ w' = w
theorem aspec_sort {P : Program} {f g : Nat} (hC : Callable P f) (hk : ∀ a, (ic a).length = k) (k0 : 0 < k) (hwf : ∀ a, ∀ n ∈ ic a, (Lit.int .i64 n).wf = true) {l l' : List α} (hlen : l'.length = l.length) (ty : TypeId)
    (hS : SortCall P f g (icV ic) k l l') (hN : SortNone P f g) :
    ASpec P f [.own 0 0 l.length k, .fn g [] []] [(0, .row ty (l.flatMap (icP ic)))] (.tup []) [(0, .row ty (l'.flatMap (icP ic)))] := by
  refine ⟨hC, fun w vs φ F hFd hH hdom hinj hsep hDok hv => ?_⟩
  rw [VRs] at hv; obtain ⟨u, r, rfl, h1, hv⟩ := hv
  rw [VRs] at hv; obtain ⟨u2, r2, rfl, h2, hv⟩ := hv
  rw [VRs] at hv; subst hv
  obtain ⟨us, ws, rfl, hus, hws⟩ := (h2 : VR φ F w (.fn g [] []) u2)
  rw [VRs] at hus hws; subst hus; subst hws
  have hg : AHeap.get [(0, ABlk.row ty (l.flatMap (icP ic)))] 0 = some (ABlk.row ty (l.flatMap (icP ic))) := rfl
  have hg' : AHeap.get [(0, ABlk.row ty (l'.flatMap (icP ic)))] 0 = some (ABlk.row ty (l'.flatMap (icP ic))) := rfl
  obtain ⟨x, hx, hs⟩ := hH 0 _ hg
  have honly : ∀ id y, φ id = some y → id = 0 := fun id y hy => by
    have := hdom id y hy
    simp only [AHeap.get] at this
    split at this
    · rename_i he; rw [Nat.beq_eq] at he; exact he.symm
    · exact absurd rfl this
  have hnone : l = [] → Calls P f #[u, .func (.func g) #[] #[]] w fun e w' => ∃ v φ' F', e = .returned v ∧ After w φ F w' φ' F' [(0, ABlk.row ty (l'.flatMap (icP ic)))] ∧ VR φ' F' w' (.tup []) v := fun hl => by
    subst hl
    have hl' : l' = [] := List.eq_nil_of_length_eq_zero (by simpa using hlen)
    subst hl'
    have hu : ∃ p c, u = .slice p 0 c := by
      rcases (h1 : VR φ F w (.own 0 0 _ k) u) x hx with ⟨rfl, e, _⟩ | ⟨b, N, c, rfl, e, _⟩
      · exact ⟨none, 0, e⟩
      · exact ⟨_, c, e⟩
    obtain ⟨p, c, rfl⟩ := hu
    refine (hN w p c).mono ?_
    rintro e w' ⟨rfl, rfl⟩
    refine ⟨_, φ, F, rfl, ?_, ⟨[], rfl, by rw [VRs]⟩⟩
    exact {
      os := rfl
      tape := rfl
      output := rfl
      size := Nat.le_refl _
      old := fun _ _ _ => rfl
      Fi := fun _ h => h
      Fd := fun b hb => ⟨hFd b hb, .inl hb⟩
      heap := hH
      place := fun id b N hid c hc => .inl ⟨id, b, N, hid, hc⟩
      dom := hdom
      inj := hinj
      sep := hsep
      Dok := hDok
      pin := fun id x hx _ => ⟨x, hx, Like.refl x⟩ }
  by_cases hl : l = []
  · exact hnone hl
  have hne : l.flatMap (icP ic) ≠ [] := flat_ne (icP_len hk) k0 hl
  cases x with
  | none => obtain ⟨ty', e⟩ := hs; injection e with _ e; exact absurd e hne
  | some x =>
    obtain ⟨b, N⟩ := x
    obtain ⟨⟨cur, hb, ⟨hN1, hN2⟩, hN3, hcells⟩, hFb⟩ := hs
    rcases (h1 : VR φ F w (.own 0 0 _ k) u) _ hx with ⟨e, _⟩ | ⟨b', N', c, e, rfl, hc1, hc2, hc3⟩
    · cases e
    injection e with e; injection e with e1 e2; subst e1; subst e2
    have hblk : b < w.heap.size := (Array.getElem?_eq_some_iff.1 hb).1
    have hlenF := flat_len (icP_len hk) l
    have hlenF' := flat_len (icP_len hk) l'
    have hmul : l'.length * k = l.length * k := by rw [hlen]
    have hold : Go.Sort.HoldsK (icV ic) k w b 0 l.toArray := by
      intro j hj
      have hj' : j < l.length * k := by simpa using hj
      have hjf : j < (l.flatMap (icP ic)).length := by omega
      obtain ⟨x, _, n, _, hp⟩ := icP_int (List.getElem?_eq_getElem hjf)
      have hgp : (l.flatMap (icP ic))[j]? = some (.int .i64 n) := by rw [List.getElem?_eq_getElem hjf, hp]
      obtain ⟨v, hv, hrv⟩ := hcells j _ hgp
      have hv' : v = .int .i64 n := by cases hrv; rfl
      subst hv'
      have hfl := flatK_icV hk l j n hgp
      rw [getElem!_pos _ j hj]
      have hfl' : (Go.Sort.flatK (icV ic) k l.toArray)[j] = Value.int .i64 n := (Array.getElem?_eq_some_iff.1 hfl).2
      refine ⟨?_, ?_⟩
      · simp only [World.cell?, hb, Nat.zero_add]
        rw [hfl']
        exact hv
      · simp only [World.frozen?, hb]
        simp
    have hcall := hS w b c hold hblk
    refine hcall.mono ?_
    rintro e w' ⟨rfl, n, os, rfl⟩
    have hsz : (Go.Sort.putRowK (icV ic) k (Go.Sort.ahead w n) b 0 l'.toArray).heap.size = w.heap.size := by
      rw [Go.Sort.putRowK, Go.Sort.size_putRow]; rfl
    have hheap : ∀ c, c < w.heap.size → c ≠ b → (Go.Proofs.sortWorldK (icV ic) k w b 0 n l'.toArray os).heap[c]? = w.heap[c]? := fun c hc hne => by
      rw [Go.Proofs.sortWorldK, grow_get _ _ (by rw [hsz]; exact hc), Go.Sort.putRowK, Go.Sort.putRow, mapBlock_get _ _ _ _ hne]
      rfl
    have hat : (Go.Proofs.sortWorldK (icV ic) k w b 0 n l'.toArray os).heap[b]? = some (.cells (Go.Sort.putCells id 0 (Go.Sort.flatK (icV ic) k l'.toArray) cur) ty (0, 0)) := by
      rw [Go.Proofs.sortWorldK, grow_get _ _ (by rw [hsz]; exact hblk), Go.Sort.putRowK, Go.Sort.putRow, mapBlock_at _ _ _ (show (Go.Sort.ahead w n).heap[b]? = _ from hb)]
    have hsize : w.heap.size ≤ (Go.Proofs.sortWorldK (icV ic) k w b 0 n l'.toArray os).heap.size := by
      rw [Go.Proofs.sortWorldK, Go.Sort.size_grow, hsz]; exact Nat.le_add_right _ _
    refine ⟨_, φ, F, rfl, ?_, ⟨[], rfl, by rw [VRs]⟩⟩
    exact {
      os := rfl
      tape := rfl
      output := rfl
      size := hsize
      old := fun c hc hno => hheap c hc (hno 0 b N hx).1
      Fi := fun _ h => h
      Fd := fun c hc => ⟨Nat.lt_of_lt_of_le (hFd c hc) hsize, .inl hc⟩
      heap := fun id B hB => by
        simp only [AHeap.get] at hB
        split at hB
        case isFalse => cases hB
        rename_i he
        rw [Nat.beq_eq] at he; subst he
        injection hB with hB; subst hB
        refine ⟨_, hx, ⟨_, hat, ⟨by simp [Go.Sort.putCells, hN1], hN2⟩, by omega, fun j p hp => ?_⟩, hFb⟩
        obtain ⟨x, _, m, hm, rfl⟩ := icP_int hp
        have hj : j < l'.length * k := by have := (List.getElem?_eq_some_iff.1 hp).1; omega
        have hfl := flatK_icV hk l' j m hp
        have hj2 : j < (Go.Sort.flatK (icV ic) k l'.toArray).size := by simp; omega
        have hcj : j < cur.size := by rw [hN1]; have : l'.length * k = l.length * k := by rw [hlen]
                                      omega
        refine ⟨.int .i64 m, ?_, .int (hwf x m hm)⟩
        simp only [Go.Sort.putCells, Array.getElem?_mapIdx, Array.getElem?_eq_getElem hcj, Option.map_some]
        rw [if_pos ⟨Nat.zero_le _, by omega⟩, Nat.sub_zero, getElem!_pos _ j hj2, (Array.getElem?_eq_some_iff.1 hfl).2]
        rfl
      place := fun id b N hid c hc => .inl ⟨id, b, N, hid, hc⟩
      dom := fun id y hy => by rw [honly id y hy]; simp [AHeap.get]
      inj := hinj
      sep := hsep
      Dok := fun id b N hid c hc => ⟨Nat.lt_of_lt_of_le (hDok id b N hid c hc).1 hsize, (hDok id b N hid c hc).2⟩
      pin := fun id x hx _ => ⟨x, hx, Like.refl x⟩ }
end
end Go.AM
end
section
namespace Go.AM
open Go Go.RowKit
/-- Delete's contract in the kit's words. -/
def DelCall (P : Program) (f : Nat) : Prop :=
  ∀ (w : World) (blk cap i j : Nat) (d : Array Int), Go.Sort.Holds (Value.int .i64) w blk 0 d → d.size ≤ cap → cap ≤ 9223372036854775807 → i ≤ j → j ≤ d.size →
    Calls P f #[.slice (some ⟨blk, 0, none⟩) d.size cap, .int .i64 i, .int .i64 j] w fun e w' => e = .returned (.slice (some ⟨blk, 0, none⟩) (d.size - (j - i)) cap) ∧ ∃ q, w' = Go.Sort.putRow (Value.int .i64) (Go.Sort.ahead w q) blk 0 (d.toList.take i ++ d.toList.drop j ++ List.replicate (j - i) 0).toArray
theorem iC_at {l : List Int} {t : Nat} : (l.flatMap iC)[t]? = (l[t]?).map fun n => PV.int .i64 n := by
  induction l generalizing t with
  | nil => simp
  | cons a l ih =>
    cases t with
    | zero => simp [iC, vI]
    | succ t => simpa [iC] using @ih t
theorem iC_flen (l : List Int) : (l.flatMap iC).length = l.length := by rw [flat_len iC_len]; exact Nat.mul_one _
theorem aspec_delete {P : Program} {f : Nat} (hC : Callable P f) (hD : DelCall P f) (ty : TypeId) {l : List Int} {i j : Int} (hl : l ≠ []) (h0 : 0 ≤ i) (hij : i ≤ j) (hj : j ≤ l.length) :
    ASpec P f [.own 0 0 l.length 1, pI i, pI j] [(0, .row ty (l.flatMap iC))] (.p (encL iC (l.take i.toNat ++ l.drop j.toNat))) [] := by
  obtain ⟨i, rfl⟩ := Int.eq_ofNat_of_zero_le h0
  obtain ⟨j, rfl⟩ := Int.eq_ofNat_of_zero_le (Int.le_trans h0 hij)
  have hij' : i ≤ j := by omega
  have hj' : j ≤ l.length := by omega
  refine ⟨hC, fun w vs φ F hFd hH hdom hinj hsep hDok hv => ?_⟩
  rw [VRs] at hv; obtain ⟨u, r, rfl, h1, hv⟩ := hv
  rw [VRs] at hv; obtain ⟨u2, r2, rfl, h2, hv⟩ := hv
  rw [VRs] at hv; obtain ⟨u3, r3, rfl, h3, hv⟩ := hv
  rw [VRs] at hv; subst hv
  have e2 : u2 = .int .i64 (i : Int) := by
    have h2' : RV w F u2 (.int .i64 (i : Int)) := h2
    cases h2'; rfl
  have e3 : u3 = .int .i64 (j : Int) := by
    have h3' : RV w F u3 (.int .i64 (j : Int)) := h3
    cases h3'; rfl
  subst e2; subst e3
  have hg : AHeap.get [(0, ABlk.row ty (l.flatMap iC))] 0 = some (ABlk.row ty (l.flatMap iC)) := rfl
  obtain ⟨x, hx, hs⟩ := hH 0 _ hg
  have hne : l.flatMap iC ≠ [] := flat_ne iC_len (by decide) hl
  cases x with
  | none => obtain ⟨ty', e⟩ := hs; injection e with _ e; exact absurd e hne
  | some x =>
    obtain ⟨b, N⟩ := x
    obtain ⟨⟨cur, hb, ⟨hN1, hN2⟩, hN3, hcells⟩, hFb⟩ := hs
    rcases (h1 : VR φ F w (.own 0 0 _ 1) u) _ hx with ⟨e, _⟩ | ⟨b', N', c, e, rfl, hc1, hc2, hc3⟩
    · cases e
    injection e with e; injection e with e1 e2; subst e1; subst e2
    have hblk : b < w.heap.size := (Array.getElem?_eq_some_iff.1 hb).1
    have hcell : ∀ t n, l[t]? = some n → cur[t]? = some (Value.int .i64 n) ∧ (Lit.int .i64 n).wf = true := fun t n ht => by
      obtain ⟨v, hv, hr⟩ := hcells t (.int .i64 n) (by rw [iC_at, ht]; rfl)
      cases hr
      rename_i hw
      exact ⟨hv, hw⟩
    have hold : Go.Sort.Holds (Value.int .i64) w b 0 l.toArray := by
      intro t ht
      have ht' : t < l.length := by simpa using ht
      obtain ⟨q1, _⟩ := hcell t _ (List.getElem?_eq_getElem ht')
      refine ⟨?_, ?_⟩
      · simp only [World.cell?, hb, Nat.zero_add]
        rw [getElem!_pos _ t ht]
        exact q1
      · simp only [World.frozen?, hb]
        simp
    unfold maxLen at hc2
    refine (hD w b c i j l.toArray hold (by simpa using hc1) (by omega) hij' (by simpa using hj')).mono ?_
    rintro e w' ⟨rfl, q, rfl⟩
    let l' : List Int := l.take i ++ l.drop j
    have hl' : (l.toArray.toList.take i ++ l.toArray.toList.drop j ++ List.replicate (j - i) 0).toArray = (l' ++ List.replicate (j - i) (0 : Int)).toArray := rfl
    rw [hl']
    have hlen' : l'.length = l.length - (j - i) := by simp [l']; omega
    have hmem : ∀ n ∈ l', n ∈ l := fun n hn => by
      rcases List.mem_append.1 hn with hn | hn
      · exact List.mem_of_mem_take hn
      · exact List.mem_of_mem_drop hn
    have hheap : ∀ c, c ≠ b → (Go.Sort.putRow (Value.int .i64) (Go.Sort.ahead w q) b 0 (l' ++ List.replicate (j - i) (0 : Int)).toArray).heap[c]? = w.heap[c]? := fun c hne => by
      rw [Go.Sort.putRow, mapBlock_get _ _ _ _ hne]; rfl
    have hat : (Go.Sort.putRow (Value.int .i64) (Go.Sort.ahead w q) b 0 (l' ++ List.replicate (j - i) (0 : Int)).toArray).heap[b]? = some (.cells (Go.Sort.putCells (Value.int .i64) 0 (l' ++ List.replicate (j - i) (0 : Int)).toArray cur) ty (0, 0)) := by
      rw [Go.Sort.putRow, mapBlock_at _ _ _ (show (Go.Sort.ahead w q).heap[b]? = _ from hb)]
    have hsize : (Go.Sort.putRow (Value.int .i64) (Go.Sort.ahead w q) b 0 (l' ++ List.replicate (j - i) (0 : Int)).toArray).heap.size = w.heap.size := by rw [Go.Sort.size_putRow]; rfl
    refine ⟨_, fun _ => none, fun c => F c ∨ c = b, rfl, ?_, ?_⟩
    · exact {
        os := rfl
        tape := rfl
        output := rfl
        size := by rw [hsize]; exact Nat.le_refl _
        old := fun c _ hno => hheap c (hno 0 b N hx).1
        Fi := fun _ h => .inl h
        Fd := fun c hc => by
          rcases hc with hc | rfl
          · exact ⟨by rw [hsize]; exact hFd c hc, .inl hc⟩
          · exact ⟨by rw [hsize]; exact hblk, .inr (.inl ⟨0, _, N, hx, .inl rfl⟩)⟩
        heap := fun id B hB => by cases hB
        place := fun id b N hid => by cases hid
        dom := fun id y hy => by cases hy
        inj := fun id id' b N N' h1 => by cases h1
        sep := fun id id' b b' N N' c h1 => by cases h1
        Dok := fun id b N hid => by cases hid
        pin := fun id x hx hn => absurd rfl hn }
    · show RV _ _ (.slice (some ⟨b, 0, none⟩) (l.toArray.size - (j - i)) c) (.sl (l'.flatMap iC) l'.length)
      have e : l.toArray.size - (j - i) = l'.length := by rw [hlen']; simp
      rw [e]
      refine RV.sl (fun t => .int .i64 ((l'[t]?).getD 0)) (by rw [hlen']; omega) (by unfold maxLen; omega) (fun h => by cases h) (fun _ => ⟨_, rfl, .inr rfl, fun t ht => ?_⟩) (fun t p hp => ?_)
      · rw [iC_flen] at ht
        have htc : t < cur.size := by
          have := hN3
          rw [iC_flen] at this
          omega
        have h3 : l'[t]? = some l'[t] := List.getElem?_eq_getElem ht
        have h4 : ∀ (A : Array Int), A = (l' ++ List.replicate (j - i) (0 : Int)).toArray → A[t]! = l'[t] := fun A hA => by
          subst hA
          rw [getElem!_pos _ t (by simp; omega)]
          simp only [List.getElem_toArray]
          rw [List.getElem_append_left ht]
        have : ((⟨b, 0, none⟩ : Addr).add t) = ⟨b, t, none⟩ := by unfold Addr.add; by_cases h : t = 0 <;> simp [h]
        rw [this]
        simp only [World.cell?, hat]
        simp only [Option.isSome_none, Bool.false_eq_true, if_false, Go.Sort.putCells, Array.getElem?_mapIdx, Array.getElem?_eq_getElem htc, Option.map_some]
        rw [if_pos ⟨Nat.zero_le _, by simp; omega⟩, Nat.sub_zero, h4 _ rfl, h3]
        rfl
      · rw [iC_at] at hp
        cases h3 : l'[t]? with
        | none => rw [h3] at hp; cases hp
        | some n =>
          rw [h3] at hp
          simp only [Option.map_some, Option.some.injEq] at hp
          subst hp
          have hm := hmem n (List.mem_of_getElem? h3)
          obtain ⟨t', ht'⟩ := List.mem_iff_getElem?.1 hm
          exact .int (hcell t' n ht').2
end Go.AM
end
