/- boundary.collect: every crack once, at the corner where it begins. -/
import Derived.Test.YtijdlphadhpabaaA3
import Derived.Test.YtijdlphadhpabaaA1
import Derived.Test.YtijdlphadhpabaaA9
import Derived.Test.YtijdlphadhpabaaA4
import Derived.Test.YtijdlphadhpabaaA2
import Derived.Test.YtijdlphadhpabaaA8
import Derived.Test.YtijdlphadhpabaaA6
import Derived.Test.YtijdlphadhpabaaA5
import Derived.Test.YtijdlphadhpabaaA7
import Derived.Test.YtijdlphadhpabaaP1
import Derived.Test.YtijdlphadhpabaaF1
section
namespace Go.AM
open Go
/-! ### Whole numbers from a to b -/
def irange (a b : Int) : List Int := (List.range (b - a).toNat).map fun n : Nat => a + (n : Int)
theorem irange_nil {a b : Int} (h : b ≤ a) : irange a b = [] := by unfold irange; rw [show (b - a).toNat = 0 by omega]; rfl
theorem irange_cons {a b : Int} (h : a < b) : irange a b = a :: irange (a + 1) b := by
  unfold irange
  rw [show (b - a).toNat = (b - (a + 1)).toNat + 1 by omega, List.range_succ_eq_map, List.map_cons, List.map_map]
  congr 1
  · simp
  · refine List.map_congr_left fun n _ => ?_
    simp only [Function.comp]; push_cast; omega
theorem mem_irange {a b k : Int} : k ∈ irange a b ↔ a ≤ k ∧ k < b := by
  unfold irange
  rw [List.mem_map]
  constructor
  · rintro ⟨n, hn, rfl⟩
    rw [List.mem_range] at hn; omega
  · rintro ⟨h1, h2⟩
    exact ⟨(k - a).toNat, by rw [List.mem_range]; omega, by omega⟩
theorem irange_lt (a b : Int) : (irange a b).Pairwise (· < ·) := by
  unfold irange
  rw [List.pairwise_map]
  exact List.pairwise_lt_range.imp fun h => by omega
/-- The numbers in runs. -/
def ints (l : List Run) : List Int := l.flatMap fun x => irange x.frm x.to
theorem mem_ints {l : List Run} {k : Int} : k ∈ ints l ↔ inRuns l k := by
  unfold ints inRuns
  rw [List.mem_flatMap]
  constructor <;> rintro ⟨x, hx, h⟩
  · exact ⟨x, hx, mem_irange.1 h⟩
  · exact ⟨x, hx, mem_irange.2 h⟩
theorem ints_lt : ∀ {l : List Run}, l.Pairwise (fun x y => x.to < y.frm) → (ints l).Pairwise (· < ·)
  | [], _ => List.Pairwise.nil
  | x :: l, h => by
    rw [List.pairwise_cons] at h
    have e : ints (x :: l) = irange x.frm x.to ++ ints l := List.flatMap_cons
    rw [e, List.pairwise_append]
    refine ⟨irange_lt _ _, ints_lt h.2, fun a ha b hb => ?_⟩
    obtain ⟨y, hy, h1, h2⟩ := mem_ints.1 hb
    have := h.1 y hy
    have := mem_irange.1 ha
    omega
theorem nodup_of_lt {l : List Int} (h : l.Pairwise (· < ·)) : l.Nodup := h.imp fun h e => by omega
/-! ### What is added -/
noncomputable section
def sub (a b : List Run) : List Run := (runs_Subtract a b).getD []
theorem sub_eq {a b : List Run} (ha : runsV 1048576 none a = true) (hb : runsV 1048576 none b = true) : runs_Subtract a b = some (sub a b) ∧ runsV 1048576 none (sub a b) = true ∧ ∀ t, inRuns (sub a b) t ↔ inRuns a t ∧ ¬ inRuns b t := by
  obtain ⟨out, h1, h2⟩ := Subtract_eq a b ha hb
  unfold sub
  rw [h1]; exact ⟨rfl, h2⟩
def nbr (o : Option Row) (y : Int) : List Run := match o with | some v => if v.y = y then v.runs else [] | none => []
def add0 (y : Int) (l : List Run) : List (Pt × Int) := (ints l).map fun k => (⟨k, y⟩, 0)
def add2 (y : Int) (l : List Run) : List (Pt × Int) := (ints l).map fun k => (⟨k + 1, y + 1⟩, 2)
def add13 (y : Int) (l : List Run) : List (Pt × Int) := l.flatMap fun x => [(⟨x.to, y⟩, 1), (⟨x.frm, y + 1⟩, 3)]
def rowAdds (p : Option Row) (w : Row) (n : Option Row) : List (Pt × Int) := add0 w.y (sub w.runs (nbr p (w.y - 1))) ++ (add2 w.y (sub w.runs (nbr n (w.y + 1))) ++ add13 w.y w.runs)
def rowsAdds : Option Row → List Row → List (Pt × Int)
  | _, [] => []
  | p, w :: l => rowAdds p w l.head? ++ rowsAdds (some w) l
def addAll (m : Cracks) (A : List (Pt × Int)) : Cracks := A.foldl (fun m a => addM a.1 a.2 m) m
/-- The cracks of a region, by corners. -/
def cracksOf (r : Region) : Cracks := addAll [] (rowsAdds none r.rows)
theorem rowM_addM (p q : Pt) (h : Int) : ∀ (m : Cracks), rowM q (addM p h m) = if q = p then rowM q m ++ [h] else rowM q m
  | [] => by
    simp only [addM, rowM]
    by_cases e : q = p <;> simp [e]
  | (a, l) :: m => by
    simp only [addM]
    by_cases e : p = a
    · subst e
      rw [if_pos rfl]
      simp only [rowM]
      by_cases e2 : q = p <;> simp [e2]
    · rw [if_neg e]
      simp only [rowM, rowM_addM p q h m]
      by_cases e2 : q = a
      · subst e2; simp [Ne.symm e]
      · simp only [e2, if_false]
theorem rowM_addAll (q : Pt) : ∀ (A : List (Pt × Int)) (m : Cracks), rowM q (addAll m A) = rowM q m ++ (A.filter (fun a => a.1 = q)).map (·.2)
  | [], m => by simp [addAll]
  | (p, h) :: A, m => by
    have e : addAll m ((p, h) :: A) = addAll (addM p h m) A := rfl
    rw [e, rowM_addAll q A, rowM_addM]
    by_cases e2 : q = p
    · subst e2; simp
    · rw [if_neg e2, List.filter_cons_of_neg (by simp; exact fun h => e2 h.symm)]
theorem keys_addM (p : Pt) (h : Int) : ∀ (m : Cracks), (m.map (·.1)).Nodup → ((addM p h m).map (·.1)).Nodup ∧ ∀ q, q ∈ (addM p h m).map (·.1) ↔ q = p ∨ q ∈ m.map (·.1)
  | [], _ => by simp [addM]
  | (a, l) :: m, hn => by
    rw [List.map_cons, List.nodup_cons] at hn
    simp only [addM]
    by_cases e : p = a
    · subst e
      rw [if_pos rfl]
      simp only [List.map_cons, List.nodup_cons, List.mem_cons]
      exact ⟨hn, fun q => by constructor <;> (intro h; rcases h with h | h <;> simp_all)⟩
    · rw [if_neg e]
      obtain ⟨h1, h2⟩ := keys_addM p h m hn.2
      simp only [List.map_cons, List.nodup_cons, List.mem_cons]
      refine ⟨⟨fun hm => ?_, h1⟩, fun q => ?_⟩
      · rcases (h2 a).1 hm with h3 | h3
        · exact e h3.symm
        · exact hn.1 h3
      · rw [h2]; constructor <;> (intro h; rcases h with h | h | h <;> simp_all)
theorem keys_addAll : ∀ (A : List (Pt × Int)) (m : Cracks), (m.map (·.1)).Nodup → ((addAll m A).map (·.1)).Nodup ∧ ∀ q, q ∈ (addAll m A).map (·.1) ↔ (∃ a ∈ A, a.1 = q) ∨ q ∈ m.map (·.1)
  | [], m, h => ⟨h, fun q => by simp [addAll]⟩
  | (p, h) :: A, m, hn => by
    have e : addAll m ((p, h) :: A) = addAll (addM p h m) A := rfl
    obtain ⟨h1, h2⟩ := keys_addM p h m hn
    obtain ⟨h3, h4⟩ := keys_addAll A _ h1
    rw [e]
    refine ⟨h3, fun q => ?_⟩
    rw [h4, h2]
    constructor
    · rintro (⟨a, ha, hq⟩ | rfl | hq)
      · exact .inl ⟨a, by simp [ha], hq⟩
      · exact .inl ⟨(q, h), by simp, rfl⟩
      · exact .inr hq
    · rintro (⟨a, ha, hq⟩ | hq)
      · rcases List.mem_cons.1 ha with rfl | ha
        · exact .inr (.inl hq.symm)
        · exact .inl ⟨a, ha, hq⟩
      · exact .inr (.inr hq)
theorem addAll_append (m : Cracks) (A B : List (Pt × Int)) : addAll m (A ++ B) = addAll (addAll m A) B := List.foldl_append ..
/-! ### The program -/
/-- Every row of M is short. -/
def Short (M : Cracks) : Prop := ∀ p, (rowM p M).length ≤ 1099511627776
theorem add_ret {m : Cracks} {p : Pt} {h : Int} {K : List (Pt × Int)} {M : Cracks} (hM : Short M) (he : addAll m ((p, h) :: K) = M) : cracks_add m p h = some (addM p h m) ∧ addAll (addM p h m) K = M := by
  refine ⟨?_, he⟩
  unfold cracks_add chk
  rw [if_pos]
  have := hM p
  rw [← he, rowM_addAll] at this
  simp at this; omega
theorem around_eq (r : Region) (hr : r.Ok) (hV : VReg r) (k : Nat) (hk : k < r.rows.length) :
    boundary_around r k = some (nbr (prev r.rows k) ((r.rows[k]).y - 1), nbr (r.rows[k + 1]?) ((r.rows[k]).y + 1)) := by
  have hl := hr.1
  unfold maxLen at hl
  have hy := hV.1 _ (List.getElem_mem hk)
  unfold RowIn at hy
  refine Ret.eq ?_
  unfold boundary_around
  refine Ret.getI rfl hk ?_
  have hb : boundary_around_j2 k r r.rows[k] = some (nbr (prev r.rows k) ((r.rows[k]).y - 1)) := by
    refine Ret.eq ?_
    unfold boundary_around_j2
    refine Ret.bind (Q' := fun b => b = true ↔ 0 < k ∧ ∃ v, prev r.rows k = some v ∧ v.y = (r.rows[k]).y - 1) ?_ (fun b hb => ?_)
    · unfold boundary_around_j1
      refine Ret.ifB (fun h => ?_) (fun h => ?_)
      · rw [decide_eq_true_eq] at h
        refine Ret.chk (inR (by omega) (by omega)) (Ret.getI (k := k - 1) (by omega) (by omega) (Ret.chk (inR (by omega) (by omega)) (Ret.mk ?_)))
        rw [beq_iff_eq, prev_pos hk (by omega)]
        simp; omega
      · rw [decide_eq_false_iff_not] at h
        refine Ret.mk ?_
        simp; omega
    · refine Ret.ifB (fun h => ?_) (fun h => ?_)
      · obtain ⟨h1, v, h2, h3⟩ := hb.1 h
        refine Ret.chk (inR (by omega) (by omega)) (Ret.getI (k := k - 1) (by omega) (by omega) (Ret.mk ?_))
        rw [prev_pos hk h1] at h2 ⊢
        injection h2 with h2; subst h2
        simp [nbr, h3]
      · have h' : ¬ (0 < k ∧ ∃ v, prev r.rows k = some v ∧ v.y = (r.rows[k]).y - 1) := fun q => by rw [hb.2 q] at h; cases h
        refine Ret.mk ?_
        cases hp : prev r.rows k with
        | none => rfl
        | some v =>
          have h0 : 0 < k := by
            rcases Nat.eq_zero_or_pos k with e | e
            · subst e; cases hp
            · exact e
          have : v.y ≠ (r.rows[k]).y - 1 := fun e => h' ⟨h0, v, hp, e⟩
          simp [nbr, this]
  have ha : boundary_around_j4 k r r.rows[k] = some (nbr (r.rows[k + 1]?) ((r.rows[k]).y + 1)) := by
    refine Ret.eq ?_
    unfold boundary_around_j4
    refine Ret.bind (Q' := fun b => b = true ↔ ∃ v, r.rows[k + 1]? = some v ∧ v.y = (r.rows[k]).y + 1) ?_ (fun b hb => ?_)
    · unfold boundary_around_j3
      refine Ret.chk (inR (by omega) (by omega)) ?_
      refine Ret.ifB (fun h => ?_) (fun h => ?_)
      · rw [decide_eq_true_eq] at h
        have hk1 : k + 1 < r.rows.length := by omega
        refine Ret.getI (k := k + 1) (by omega) hk1 (Ret.chk (inR (by omega) (by omega)) (Ret.mk ?_))
        rw [beq_iff_eq, List.getElem?_eq_getElem hk1]
        simp
      · rw [decide_eq_false_iff_not] at h
        refine Ret.mk ?_
        rw [List.getElem?_eq_none (by omega)]; simp
    · refine Ret.ifB (fun h => ?_) (fun h => ?_)
      · obtain ⟨v, h2, h3⟩ := hb.1 h
        have hk1 := (List.getElem?_eq_some_iff.1 h2).1
        refine Ret.chk (inR (by omega) (by omega)) (Ret.getI (k := k + 1) (by omega) hk1 (Ret.mk ?_))
        rw [List.getElem?_eq_getElem hk1] at h2 ⊢
        injection h2 with h2; subst h2
        simp [nbr, h3]
      · have h' : ¬ (∃ v, r.rows[k + 1]? = some v ∧ v.y = (r.rows[k]).y + 1) := fun q => by rw [hb.2 q] at h; cases h
        refine Ret.mk ?_
        cases hp : r.rows[k + 1]? with
        | none => rfl
        | some v =>
          have : v.y ≠ (r.rows[k]).y + 1 := fun e => h' ⟨v, hp, e⟩
          simp [nbr, this]
  exact Ret.bindE hb (Ret.bindE ha (Ret.mk rfl))
theorem add0_cons (y : Int) (x : Run) (l : List Run) : add0 y (x :: l) = (irange x.frm x.to).map (fun k => (⟨k, y⟩, 0)) ++ add0 y l := by
  unfold add0 ints; rw [List.flatMap_cons, List.map_append]
theorem add2_cons (y : Int) (x : Run) (l : List Run) : add2 y (x :: l) = (irange x.frm x.to).map (fun k => (⟨k + 1, y + 1⟩, 2)) ++ add2 y l := by
  unfold add2 ints; rw [List.flatMap_cons, List.map_append]
theorem coll_l1 {x : Run} {w : Row} (hx : RunIn 1048576 x) {M : Cracks} (hM : Short M) {K : List (Pt × Int)} {m : Cracks} (he : addAll m ((irange x.frm x.to).map (fun k => (⟨k, w.y⟩, 0)) ++ K) = M) :
    Ret (loopP (boundary_collect_l1 x w) (x.frm, m)) fun m' => addAll m' K = M := by
  unfold RunIn at hx
  refine Ret.loop (I := fun s : Int × Cracks => -1048576 ≤ s.1 ∧ s.1 ≤ x.to ∧ addAll s.2 ((irange s.1 x.to).map (fun k => (⟨k, w.y⟩, 0)) ++ K) = M) (μ := fun s : Int × Cracks => (x.to - s.1).toNat) (fun s hs => ?_) ⟨by omega, by simp only; omega, he⟩
  obtain ⟨t, m⟩ := s
  obtain ⟨h1, h2, h3⟩ := hs
  simp only at h1 h2 h3
  unfold boundary_collect_l1
  refine Ret.ifB (fun hlt => ?_) (fun hge => ?_)
  · rw [decide_eq_true_eq] at hlt
    rw [irange_cons hlt, List.map_cons, List.cons_append] at h3
    obtain ⟨e1, e2⟩ := add_ret hM h3
    exact Ret.bindE e1 (Ret.chk (inR (by omega) (by omega)) (Ret.mk ⟨⟨by simp only; omega, by simp only; omega, e2⟩, by simp only; omega⟩))
  · rw [decide_eq_false_iff_not] at hge
    rw [irange_nil (by omega)] at h3
    exact Ret.mk h3
theorem coll_l3 {x : Run} {w : Row} (hx : RunIn 1048576 x) (hw : -4096 ≤ w.y ∧ w.y < 4096) {M : Cracks} (hM : Short M) {K : List (Pt × Int)} {m : Cracks} (he : addAll m ((irange x.frm x.to).map (fun k => (⟨k + 1, w.y + 1⟩, 2)) ++ K) = M) :
    Ret (loopP (boundary_collect_l3 x w) (x.frm, m)) fun m' => addAll m' K = M := by
  unfold RunIn at hx
  refine Ret.loop (I := fun s : Int × Cracks => -1048576 ≤ s.1 ∧ s.1 ≤ x.to ∧ addAll s.2 ((irange s.1 x.to).map (fun k => (⟨k + 1, w.y + 1⟩, 2)) ++ K) = M) (μ := fun s : Int × Cracks => (x.to - s.1).toNat) (fun s hs => ?_) ⟨by omega, by simp only; omega, he⟩
  obtain ⟨t, m⟩ := s
  obtain ⟨h1, h2, h3⟩ := hs
  simp only at h1 h2 h3
  unfold boundary_collect_l3
  refine Ret.ifB (fun hlt => ?_) (fun hge => ?_)
  · rw [decide_eq_true_eq] at hlt
    rw [irange_cons hlt, List.map_cons, List.cons_append] at h3
    obtain ⟨e1, e2⟩ := add_ret hM h3
    exact Ret.chk (inR (by omega) (by omega)) (Ret.chk (inR (by omega) (by omega)) (Ret.bindE e1 (Ret.mk ⟨⟨by simp only; omega, by simp only; omega, e2⟩, by simp only; omega⟩)))
  · rw [decide_eq_false_iff_not] at hge
    rw [irange_nil (by omega)] at h3
    exact Ret.mk h3
theorem coll_l2 {w : Row} {l : List Run} (hl : runsV 1048576 none l = true) {M : Cracks} (hM : Short M) {K : List (Pt × Int)} {m : Cracks} (he : addAll m (add0 w.y l ++ K) = M) :
    Ret (loopP (boundary_collect_l2 l w) (0, m)) fun m' => addAll m' K = M := by
  have hfew := runsV_few (by decide) hl
  have hin := (runsV_none.1 hl).1
  refine Ret.loop (I := fun s : Int × Cracks => ∃ k : Nat, s.1 = k ∧ k ≤ l.length ∧ addAll s.2 (add0 w.y (l.drop k) ++ K) = M) (μ := fun s : Int × Cracks => l.length - s.1.toNat) (fun s hs => ?_) ⟨0, rfl, Nat.zero_le _, he⟩
  obtain ⟨t, m⟩ := s
  obtain ⟨k, rfl, hk, h3⟩ := hs
  simp only at h3
  unfold boundary_collect_l2
  refine Ret.ifB (fun hlt => ?_) (fun hge => ?_)
  · rw [decide_eq_true_eq] at hlt
    have hk' : k < l.length := by omega
    rw [List.drop_eq_getElem_cons hk', add0_cons, List.append_assoc] at h3
    refine Ret.getI rfl hk' (Ret.bind (coll_l1 (hin _ (List.getElem_mem hk')) hM h3) fun m' hm' => ?_)
    exact Ret.chk (inR (by omega) (by omega)) (Ret.mk ⟨⟨k + 1, by simp, by omega, hm'⟩, by simp only; omega⟩)
  · rw [decide_eq_false_iff_not] at hge
    have : k = l.length := by omega
    subst this
    rw [List.drop_length] at h3
    exact Ret.mk h3
theorem coll_l4 {w : Row} (hw : -4096 ≤ w.y ∧ w.y < 4096) {l : List Run} (hl : runsV 1048576 none l = true) {M : Cracks} (hM : Short M) {K : List (Pt × Int)} {m : Cracks} (he : addAll m (add2 w.y l ++ K) = M) :
    Ret (loopP (boundary_collect_l4 l w) (0, m)) fun m' => addAll m' K = M := by
  have hfew := runsV_few (by decide) hl
  have hin := (runsV_none.1 hl).1
  refine Ret.loop (I := fun s : Int × Cracks => ∃ k : Nat, s.1 = k ∧ k ≤ l.length ∧ addAll s.2 (add2 w.y (l.drop k) ++ K) = M) (μ := fun s : Int × Cracks => l.length - s.1.toNat) (fun s hs => ?_) ⟨0, rfl, Nat.zero_le _, he⟩
  obtain ⟨t, m⟩ := s
  obtain ⟨k, rfl, hk, h3⟩ := hs
  simp only at h3
  unfold boundary_collect_l4
  refine Ret.ifB (fun hlt => ?_) (fun hge => ?_)
  · rw [decide_eq_true_eq] at hlt
    have hk' : k < l.length := by omega
    rw [List.drop_eq_getElem_cons hk', add2_cons, List.append_assoc] at h3
    refine Ret.getI rfl hk' (Ret.bind (coll_l3 (hin _ (List.getElem_mem hk')) hw hM h3) fun m' hm' => ?_)
    exact Ret.chk (inR (by omega) (by omega)) (Ret.mk ⟨⟨k + 1, by simp, by omega, hm'⟩, by simp only; omega⟩)
  · rw [decide_eq_false_iff_not] at hge
    have : k = l.length := by omega
    subst this
    rw [List.drop_length] at h3
    exact Ret.mk h3
theorem coll_l5 {w : Row} (hw : -4096 ≤ w.y ∧ w.y < 4096) (hl : runsV 4096 none w.runs = true) {M : Cracks} (hM : Short M) {K : List (Pt × Int)} {m : Cracks} (he : addAll m (add13 w.y w.runs ++ K) = M) :
    Ret (loopP (boundary_collect_l5 w) (0, m)) fun m' => addAll m' K = M := by
  have hfew := runsV_few (by decide) hl
  refine Ret.loop (I := fun s : Int × Cracks => ∃ k : Nat, s.1 = k ∧ k ≤ w.runs.length ∧ addAll s.2 (add13 w.y (w.runs.drop k) ++ K) = M) (μ := fun s : Int × Cracks => w.runs.length - s.1.toNat) (fun s hs => ?_) ⟨0, rfl, Nat.zero_le _, he⟩
  obtain ⟨t, m⟩ := s
  obtain ⟨k, rfl, hk, h3⟩ := hs
  simp only at h3
  unfold boundary_collect_l5
  refine Ret.ifB (fun hlt => ?_) (fun hge => ?_)
  · rw [decide_eq_true_eq] at hlt
    have hk' : k < w.runs.length := by omega
    rw [List.drop_eq_getElem_cons hk'] at h3
    have e : add13 w.y (w.runs[k] :: w.runs.drop (k + 1)) ++ K = (⟨(w.runs[k]).to, w.y⟩, 1) :: (⟨(w.runs[k]).frm, w.y + 1⟩, 3) :: (add13 w.y (w.runs.drop (k + 1)) ++ K) := by
      unfold add13; rw [List.flatMap_cons]; rfl
    rw [e] at h3
    obtain ⟨e1, e2⟩ := add_ret hM h3
    obtain ⟨e3, e4⟩ := add_ret hM e2
    exact Ret.getI rfl hk' (Ret.bindE e1 (Ret.chk (inR (by omega) (by omega)) (Ret.bindE e3 (Ret.chk (inR (by omega) (by omega)) (Ret.mk ⟨⟨k + 1, by simp, by omega, e4⟩, by simp only; omega⟩)))))
  · rw [decide_eq_false_iff_not] at hge
    have : k = w.runs.length := by omega
    subst this
    rw [List.drop_length] at h3
    exact Ret.mk h3
theorem RowIn.big {w : Row} (h : RowIn w) : runsV 4096 none w.runs = true ∧ runsV 1048576 none w.runs = true := by
  refine ⟨runsV_none.2 ⟨h.2.2.2.1, h.2.2.2.2⟩, runsV_none.2 ⟨fun x hx => ?_, h.2.2.2.2⟩⟩
  have := h.2.2.2.1 x hx
  unfold RunIn at this ⊢; omega
theorem nbr_V {o : Option Row} (h : ∀ v, o = some v → RowIn v) (y : Int) : runsV 1048576 none (nbr o y) = true := by
  cases o with
  | none => rfl
  | some v =>
    unfold nbr
    simp only
    split
    · exact (h v rfl).big.2
    · rfl
theorem rows_few : ∀ {l : List Row} {c : Int}, c ≤ 4096 → (∀ w ∈ l, RowIn w ∧ c ≤ w.y) → l.Pairwise (fun v w => v.y < w.y) → (l.length : Int) ≤ 4096 - c
  | [], c, hc, _, _ => by simp; omega
  | x :: l, c, hc, h1, h2 => by
    rw [List.pairwise_cons] at h2
    obtain ⟨⟨q1, q2, q3⟩, q4⟩ := h1 x (by simp)
    have := rows_few (l := l) (c := c + 1) (by omega) (fun y hy => ⟨(h1 y (by simp [hy])).1, by have := h2.1 y hy; omega⟩) h2.2
    simp only [List.length_cons]; push_cast; omega
theorem VReg.few {r : Region} (h : VReg r) : (r.rows.length : Int) ≤ 8192 := by
  have := rows_few (c := -4096) (by decide) (fun w hw => ⟨h.1 w hw, (h.1 w hw).1⟩) h.2
  omega
theorem collect_eq (r : Region) (hr : r.Ok) (hV : VReg r) (hM : Short (cracksOf r)) : boundary_collect r = some (cracksOf r) := by
  have hfew := hV.few
  refine Ret.eq ?_
  unfold boundary_collect
  refine Ret.bind (Q' := (· = cracksOf r)) ?_ (fun m hm => Ret.mk hm)
  refine Ret.loop (I := fun s : Int × Cracks => ∃ k : Nat, s.1 = k ∧ k ≤ r.rows.length ∧ addAll s.2 (rowsAdds (prev r.rows k) (r.rows.drop k)) = cracksOf r) (μ := fun s : Int × Cracks => r.rows.length - s.1.toNat) (fun s hs => ?_) ⟨0, rfl, Nat.zero_le _, rfl⟩
  obtain ⟨t, m⟩ := s
  obtain ⟨k, rfl, hk, h3⟩ := hs
  simp only at h3
  unfold boundary_collect_l6
  refine Ret.ifB (fun hlt => ?_) (fun hge => ?_)
  · rw [decide_eq_true_eq] at hlt
    have hk' : k < r.rows.length := by omega
    have hw := hV.1 _ (List.getElem_mem hk')
    rw [List.drop_eq_getElem_cons hk', rowsAdds, rowAdds, List.append_assoc, List.append_assoc] at h3
    have hh : (r.rows.drop (k + 1)).head? = r.rows[k + 1]? := List.head?_drop
    rw [hh] at h3
    have hpv : ∀ v, prev r.rows k = some v → RowIn v := fun v hv => by
      unfold prev at hv
      split at hv
      · cases hv
      · exact hV.1 v (List.mem_of_getElem? hv)
    have hnv : ∀ v, r.rows[k + 1]? = some v → RowIn v := fun v hv => hV.1 v (List.mem_of_getElem? hv)
    have s1 := sub_eq hw.big.2 (nbr_V hpv ((r.rows[k]).y - 1))
    have s2 := sub_eq hw.big.2 (nbr_V hnv ((r.rows[k]).y + 1))
    refine Ret.getI rfl hk' (Ret.bindE (around_eq r hr hV k hk') (Ret.bindE s1.1 (Ret.bind (coll_l2 s1.2.1 hM h3) fun m1 h4 => ?_)))
    refine Ret.bindE s2.1 (Ret.bind (coll_l4 ⟨hw.1, hw.2.1⟩ s2.2.1 hM h4) fun m2 h5 => ?_)
    refine Ret.bind (coll_l5 ⟨hw.1, hw.2.1⟩ hw.big.1 hM h5) fun m3 h6 => ?_
    refine Ret.chk (inR (by omega) (by omega)) (Ret.mk ⟨⟨k + 1, by simp, by omega, ?_⟩, by simp only; omega⟩)
    rw [prev_succ hk']; exact h6
  · rw [decide_eq_false_iff_not] at hge
    have : k = r.rows.length := by omega
    subst this
    rw [List.drop_length] at h3
    exact Ret.mk h3
end
end Go.AM
end
section
namespace Go.AM
open Go
/-- A crack: it begins at p, in the direction h; a cell of the set on its left, none on its right. -/
def isC (S : Int → Int → Prop) (p : Pt) (h : Int) : Prop :=
  (h = 0 ∧ S p.x p.y ∧ ¬ S p.x (p.y - 1)) ∨ (h = 1 ∧ S (p.x - 1) p.y ∧ ¬ S p.x p.y) ∨ (h = 2 ∧ S (p.x - 1) (p.y - 1) ∧ ¬ S (p.x - 1) p.y) ∨ (h = 3 ∧ S p.x (p.y - 1) ∧ ¬ S (p.x - 1) (p.y - 1))
def inG (r : Region) (x y : Int) : Prop := ∃ w ∈ r.rows, w.y = y ∧ inRuns w.runs x
section
variable {r : Region}
theorem VReg.row_eq (hV : VReg r) {i j : Nat} (hi : i < r.rows.length) (hj : j < r.rows.length) (h : (r.rows[i]).y = (r.rows[j]).y) : i = j := by
  have := List.pairwise_iff_getElem.1 hV.2
  rcases Nat.lt_trichotomy i j with h1 | h1 | h1
  · have := this i j hi hj h1; omega
  · exact h1
  · have := this j i hj hi h1; omega
theorem inG_row (hV : VReg r) {k : Nat} (hk : k < r.rows.length) (x : Int) : inG r x (r.rows[k]).y ↔ inRuns (r.rows[k]).runs x := by
  constructor
  · rintro ⟨w, hw, hy, hx⟩
    obtain ⟨j, hj, rfl⟩ := List.getElem_of_mem hw
    have := hV.row_eq hj hk hy
    subst this; exact hx
  · exact fun h => ⟨_, List.getElem_mem hk, rfl, h⟩
theorem inG_below (hV : VReg r) {k : Nat} (hk : k < r.rows.length) (x : Int) : inG r x ((r.rows[k]).y - 1) ↔ inRuns (nbr (prev r.rows k) ((r.rows[k]).y - 1)) x := by
  have hs := List.pairwise_iff_getElem.1 hV.2
  constructor
  · rintro ⟨w, hw, hy, hx⟩
    obtain ⟨j, hj, rfl⟩ := List.getElem_of_mem hw
    have hjk : j < k := by
      rcases Nat.lt_trichotomy j k with h1 | h1 | h1
      · exact h1
      · subst h1; omega
      · have := hs k j hk hj h1; omega
    have : j = k - 1 := by
      rcases Nat.lt_or_ge j (k - 1) with h1 | h1
      · have h2 := hs j (k - 1) hj (by omega) h1
        have h3 := hs (k - 1) k (by omega) hk (by omega)
        omega
      · omega
    subst this
    rw [prev_pos hk (by omega), nbr]
    rw [if_pos hy]; exact hx
  · intro h
    unfold nbr at h
    split at h
    · rename_i v hv
      split at h
      · rename_i hy
        unfold prev at hv
        split at hv
        · cases hv
        · exact ⟨v, List.mem_of_getElem? hv, hy, h⟩
      · obtain ⟨_, h, _⟩ := h; cases h
    · obtain ⟨_, h, _⟩ := h; cases h
theorem inG_above (hV : VReg r) {k : Nat} (hk : k < r.rows.length) (x : Int) : inG r x ((r.rows[k]).y + 1) ↔ inRuns (nbr (r.rows[k + 1]?) ((r.rows[k]).y + 1)) x := by
  have hs := List.pairwise_iff_getElem.1 hV.2
  constructor
  · rintro ⟨w, hw, hy, hx⟩
    obtain ⟨j, hj, rfl⟩ := List.getElem_of_mem hw
    have hjk : k < j := by
      rcases Nat.lt_trichotomy j k with h1 | h1 | h1
      · have := hs j k hj hk h1; omega
      · subst h1; omega
      · exact h1
    have : j = k + 1 := by
      rcases Nat.lt_or_ge (k + 1) j with h1 | h1
      · have h2 := hs (k + 1) j (by omega) hj h1
        have h3 := hs k (k + 1) hk (by omega) (by omega)
        omega
      · omega
    subst this
    rw [List.getElem?_eq_getElem hj, nbr]
    rw [if_pos hy]; exact hx
  · intro h
    unfold nbr at h
    split at h
    · rename_i v hv
      split at h
      · rename_i hy
        exact ⟨v, List.mem_of_getElem? hv, hy, h⟩
      · obtain ⟨_, h, _⟩ := h; cases h
    · obtain ⟨_, h, _⟩ := h; cases h
theorem VReg.nb (hV : VReg r) {k : Nat} : (∀ v, prev r.rows k = some v → RowIn v) ∧ ∀ v, r.rows[k + 1]? = some v → RowIn v := by
  refine ⟨fun v hv => ?_, fun v hv => hV.1 v (List.mem_of_getElem? hv)⟩
  unfold prev at hv
  split at hv
  · cases hv
  · exact hV.1 v (List.mem_of_getElem? hv)
/-- The first place to the right of x that is not in the run. -/
theorem mem_add13 {y : Int} {l : List Run} {a : Pt × Int} : a ∈ add13 y l ↔ (a.2 = 1 ∧ a.1.y = y ∧ ∃ x ∈ l, a.1.x = x.to) ∨ (a.2 = 3 ∧ a.1.y = y + 1 ∧ ∃ x ∈ l, a.1.x = x.frm) := by
  obtain ⟨⟨px, py⟩, h⟩ := a
  unfold add13
  rw [List.mem_flatMap]
  constructor
  · rintro ⟨x, hx, hm⟩
    simp only [List.mem_cons, List.not_mem_nil, or_false, Prod.mk.injEq, Pt.mk.injEq] at hm
    rcases hm with ⟨⟨rfl, rfl⟩, rfl⟩ | ⟨⟨rfl, rfl⟩, rfl⟩
    · exact .inl ⟨rfl, rfl, x, hx, rfl⟩
    · exact .inr ⟨rfl, rfl, x, hx, rfl⟩
  · rintro (⟨rfl, rfl, x, hx, rfl⟩ | ⟨rfl, rfl, x, hx, rfl⟩)
    · exact ⟨x, hx, by simp⟩
    · exact ⟨x, hx, by simp⟩
theorem mem_add0 {y : Int} {l : List Run} {a : Pt × Int} : a ∈ add0 y l ↔ a.2 = 0 ∧ a.1.y = y ∧ inRuns l a.1.x := by
  obtain ⟨⟨px, py⟩, h⟩ := a
  unfold add0
  rw [List.mem_map]
  constructor
  · rintro ⟨k, hk, he⟩
    simp only [Prod.mk.injEq, Pt.mk.injEq] at he
    obtain ⟨⟨rfl, rfl⟩, rfl⟩ := he
    exact ⟨rfl, rfl, mem_ints.1 hk⟩
  · rintro ⟨rfl, rfl, hx⟩
    exact ⟨px, mem_ints.2 hx, rfl⟩
theorem mem_add2 {y : Int} {l : List Run} {a : Pt × Int} : a ∈ add2 y l ↔ a.2 = 2 ∧ a.1.y = y + 1 ∧ inRuns l (a.1.x - 1) := by
  obtain ⟨⟨px, py⟩, h⟩ := a
  unfold add2
  rw [List.mem_map]
  constructor
  · rintro ⟨k, hk, he⟩
    simp only [Prod.mk.injEq, Pt.mk.injEq] at he
    obtain ⟨⟨rfl, rfl⟩, rfl⟩ := he
    exact ⟨rfl, rfl, by rw [show k + 1 - 1 = k by omega]; exact mem_ints.1 hk⟩
  · rintro ⟨rfl, rfl, hx⟩
    exact ⟨px - 1, mem_ints.2 hx, by simp⟩
/-- The end of a run: a number in it, the next one in none. -/
theorem end_iff {l : List Run} (h1 : ∀ x ∈ l, x.frm < x.to) (h2 : l.Pairwise (fun x y => x.to < y.frm)) (t : Int) : (∃ x ∈ l, t = x.to) ↔ inRuns l (t - 1) ∧ ¬ inRuns l t := by
  have hp := List.pairwise_iff_getElem.1 h2
  constructor
  · rintro ⟨x, hx, rfl⟩
    refine ⟨⟨x, hx, by have := h1 x hx; omega, by omega⟩, ?_⟩
    rintro ⟨y, hy, q1, q2⟩
    obtain ⟨i, hi, rfl⟩ := List.getElem_of_mem hx
    obtain ⟨j, hj, rfl⟩ := List.getElem_of_mem hy
    rcases Nat.lt_trichotomy i j with h | h | h
    · have := hp i j hi hj h; omega
    · subst h; omega
    · have := hp j i hj hi h; have := h1 _ (List.getElem_mem hi); omega
  · rintro ⟨⟨x, hx, q1, q2⟩, hn⟩
    exact ⟨x, hx, by have : ¬ t < x.to := fun h => hn ⟨x, hx, by omega, h⟩; omega⟩
theorem start_iff {l : List Run} (h1 : ∀ x ∈ l, x.frm < x.to) (h2 : l.Pairwise (fun x y => x.to < y.frm)) (t : Int) : (∃ x ∈ l, t = x.frm) ↔ inRuns l t ∧ ¬ inRuns l (t - 1) := by
  have hp := List.pairwise_iff_getElem.1 h2
  constructor
  · rintro ⟨x, hx, rfl⟩
    refine ⟨⟨x, hx, by omega, h1 x hx⟩, ?_⟩
    rintro ⟨y, hy, q1, q2⟩
    obtain ⟨i, hi, rfl⟩ := List.getElem_of_mem hx
    obtain ⟨j, hj, rfl⟩ := List.getElem_of_mem hy
    rcases Nat.lt_trichotomy i j with h | h | h
    · have := hp i j hi hj h; have := h1 _ (List.getElem_mem hi); omega
    · subst h; omega
    · have := hp j i hj hi h; omega
  · rintro ⟨⟨x, hx, q1, q2⟩, hn⟩
    exact ⟨x, hx, by have : ¬ x.frm ≤ t - 1 := fun h => hn ⟨x, hx, h, by omega⟩; omega⟩
theorem mem_rowAdds (hV : VReg r) {k : Nat} (hk : k < r.rows.length) (a : Pt × Int) : a ∈ rowAdds (prev r.rows k) r.rows[k] r.rows[k + 1]? ↔ isC (inG r) a.1 a.2 ∧ (r.rows[k]).y = if a.2 = 0 ∨ a.2 = 1 then a.1.y else a.1.y - 1 := by
  have hw := hV.1 _ (List.getElem_mem hk)
  have s1 := (sub_eq hw.big.2 (nbr_V (hV.nb (k := k)).1 ((r.rows[k]).y - 1))).2.2
  have s2 := (sub_eq hw.big.2 (nbr_V (hV.nb (k := k)).2 ((r.rows[k]).y + 1))).2.2
  have hr := runsV_none.1 hw.big.2
  have hlt : ∀ x ∈ (r.rows[k]).runs, x.frm < x.to := fun x hx => (hr.1 x hx).2.1
  unfold rowAdds
  rw [List.mem_append, List.mem_append, mem_add0, mem_add2, mem_add13, s1, s2, end_iff hlt hr.2, start_iff hlt hr.2, ← inG_below hV hk, ← inG_above hV hk, ← inG_row hV hk, ← inG_row hV hk]
  obtain ⟨⟨px, py⟩, h⟩ := a
  unfold isC
  simp only
  generalize (r.rows[k]).y = y
  constructor
  · rintro (⟨rfl, rfl, q1, q2⟩ | ⟨rfl, rfl, q1, q2⟩ | ⟨rfl, rfl, q1, q2⟩ | ⟨rfl, rfl, q1, q2⟩)
    · exact ⟨.inl ⟨rfl, q1, q2⟩, by simp⟩
    · refine ⟨.inr (.inr (.inl ⟨rfl, ?_, ?_⟩)), by simp⟩
      · rw [show y + 1 - 1 = y by omega]; exact q1
      · exact q2
    · exact ⟨.inr (.inl ⟨rfl, q1, q2⟩), by simp⟩
    · refine ⟨.inr (.inr (.inr ⟨rfl, ?_, ?_⟩)), by simp⟩
      · rw [show y + 1 - 1 = y by omega]; exact q1
      · rw [show y + 1 - 1 = y by omega]; exact q2
  · rintro ⟨⟨rfl, q1, q2⟩ | ⟨rfl, q1, q2⟩ | ⟨rfl, q1, q2⟩ | ⟨rfl, q1, q2⟩, hy⟩
    · simp at hy; subst hy; exact .inl ⟨rfl, rfl, q1, q2⟩
    · simp at hy; subst hy; exact .inr (.inr (.inl ⟨rfl, rfl, q1, q2⟩))
    · simp at hy; subst hy
      refine .inr (.inl ⟨rfl, by omega, q1, ?_⟩)
      rw [show py - 1 + 1 = py by omega]; exact q2
    · simp at hy; subst hy
      exact .inr (.inr (.inr ⟨rfl, by omega, q1, q2⟩))
theorem nodup_rowAdds (hV : VReg r) {k : Nat} (hk : k < r.rows.length) : (rowAdds (prev r.rows k) r.rows[k] r.rows[k + 1]?).Nodup := by
  have hw := hV.1 _ (List.getElem_mem hk)
  have s1 := (sub_eq hw.big.2 (nbr_V (hV.nb (k := k)).1 ((r.rows[k]).y - 1))).2.1
  have s2 := (sub_eq hw.big.2 (nbr_V (hV.nb (k := k)).2 ((r.rows[k]).y + 1))).2.1
  have hr := runsV_none.1 hw.big.2
  unfold rowAdds
  rw [List.nodup_append, List.nodup_append]
  refine ⟨?_, ⟨?_, ?_, fun a ha b hb e => ?_⟩, fun a ha b hb e => ?_⟩
  · unfold add0
    refine List.Pairwise.map _ (fun a b (h : a ≠ b) e => ?_) (nodup_of_lt (ints_lt (runsV_none.1 s1).2))
    simp only [Prod.mk.injEq, Pt.mk.injEq] at e; exact h e.1.1
  · unfold add2
    refine List.Pairwise.map _ (fun a b (h : a ≠ b) e => ?_) (nodup_of_lt (ints_lt (runsV_none.1 s2).2))
    simp only [Prod.mk.injEq, Pt.mk.injEq] at e; exact h (by omega)
  · unfold add13
    generalize (r.rows[k]).y = y
    have h1 := hr.1
    have h2 := hr.2
    clear hr s1 s2
    generalize (r.rows[k]).runs = L at h1 h2
    induction L with
    | nil => exact List.nodup_nil
    | cons x l ih =>
      rw [List.flatMap_cons, List.nodup_append]
      rw [List.pairwise_cons] at h2
      refine ⟨by simp, ih (fun z hz => h1 z (by simp [hz])) h2.2, fun a ha b hb e => ?_⟩
      subst e
      have hx := (h1 x (by simp)).2.1
      have hb' := mem_add13.1 hb
      simp only [List.mem_cons, List.not_mem_nil, or_false] at ha
      rcases ha with rfl | rfl
      · rcases hb' with ⟨_, _, z, hz, e⟩ | ⟨e, _⟩
        · simp only at e
          have := h2.1 z hz; have := (h1 z (by simp [hz])).2.1; omega
        · cases e
      · rcases hb' with ⟨e, _⟩ | ⟨_, _, z, hz, e⟩
        · cases e
        · simp only at e
          have := h2.1 z hz; omega
  · subst e
    have q1 := (mem_add2.1 ha).1
    rcases mem_add13.1 hb with h | h
    · rw [h.1] at q1; cases q1
    · rw [h.1] at q1; cases q1
  · subst e
    have q1 := (mem_add0.1 ha).1
    rcases List.mem_append.1 hb with hb | hb
    · rw [(mem_add2.1 hb).1] at q1; cases q1
    · rcases mem_add13.1 hb with h | h
      · rw [h.1] at q1; cases q1
      · rw [h.1] at q1; cases q1
/-- From place k on. -/
theorem mem_rowsAdds (r : Region) : ∀ (n k : Nat), n + k = r.rows.length → ∀ a, a ∈ rowsAdds (prev r.rows k) (r.rows.drop k) ↔ ∃ j, ∃ hj : j < r.rows.length, k ≤ j ∧ a ∈ rowAdds (prev r.rows j) r.rows[j] r.rows[j + 1]?
  | 0, k, hk, a => by
    rw [List.drop_eq_nil_of_le (by omega), rowsAdds]
    constructor
    · intro h; cases h
    · rintro ⟨j, hj, h1, _⟩; omega
  | n + 1, k, hk, a => by
    have hk' : k < r.rows.length := by omega
    have ih := mem_rowsAdds r n (k + 1) (by omega) a
    rw [prev_succ hk'] at ih
    rw [List.drop_eq_getElem_cons hk', rowsAdds, List.mem_append, ih, List.head?_drop]
    constructor
    · rintro (h | ⟨j, hj, h1, h2⟩)
      · exact ⟨k, hk', Nat.le_refl _, h⟩
      · exact ⟨j, hj, by omega, h2⟩
    · rintro ⟨j, hj, h1, h2⟩
      by_cases e : j = k
      · subst e; exact .inl h2
      · exact .inr ⟨j, hj, by omega, h2⟩
theorem nodup_rowsAdds (hV : VReg r) : ∀ (n k : Nat), n + k = r.rows.length → (rowsAdds (prev r.rows k) (r.rows.drop k)).Nodup
  | 0, k, hk => by rw [List.drop_eq_nil_of_le (by omega), rowsAdds]; exact List.nodup_nil
  | n + 1, k, hk => by
    have hk' : k < r.rows.length := by omega
    have ih := nodup_rowsAdds hV n (k + 1) (by omega)
    have hm := mem_rowsAdds r n (k + 1) (by omega)
    rw [prev_succ hk'] at ih hm
    rw [List.drop_eq_getElem_cons hk', rowsAdds, List.head?_drop, List.nodup_append]
    refine ⟨nodup_rowAdds hV hk', ih, fun a ha b hb e => ?_⟩
    subst e
    obtain ⟨j, hj, h1, h2⟩ := (hm a).1 hb
    have q1 := ((mem_rowAdds hV hk' a).1 ha).2
    have q2 := ((mem_rowAdds hV hj a).1 h2).2
    have := hV.row_eq hk' hj (q1.trans q2.symm)
    omega
theorem mem_adds (hV : VReg r) (a : Pt × Int) : a ∈ rowsAdds none r.rows ↔ isC (inG r) a.1 a.2 := by
  have := mem_rowsAdds r r.rows.length 0 (by omega) a
  rw [prev_zero, List.drop_zero] at this
  rw [this]
  constructor
  · rintro ⟨j, hj, _, h⟩; exact ((mem_rowAdds hV hj a).1 h).1
  · intro h
    -- the row of the cell on its left
    have hrow : ∃ j, ∃ hj : j < r.rows.length, (r.rows[j]).y = if a.2 = 0 ∨ a.2 = 1 then a.1.y else a.1.y - 1 := by
      have key : ∀ x y, inG r x y → ∃ j, ∃ hj : j < r.rows.length, (r.rows[j]).y = y := fun x y ⟨w, hw, hy, _⟩ => by
        obtain ⟨j, hj, rfl⟩ := List.getElem_of_mem hw
        exact ⟨j, hj, hy⟩
      rcases h with ⟨e, h1, _⟩ | ⟨e, h1, _⟩ | ⟨e, h1, _⟩ | ⟨e, h1, _⟩ <;> (rw [e]; simpa using key _ _ h1)
    obtain ⟨j, hj, hy⟩ := hrow
    exact ⟨j, hj, Nat.zero_le _, (mem_rowAdds hV hj a).2 ⟨h, hy⟩⟩
theorem nodup_adds (hV : VReg r) : (rowsAdds none r.rows).Nodup := by
  have := nodup_rowsAdds hV r.rows.length 0 (by omega)
  rwa [prev_zero, List.drop_zero] at this
/-! ### What collect returns -/
/-- A map that holds just these cracks. -/
structure Holds' (m : Cracks) (C : Pt → Int → Prop) : Prop where
  keys : (m.map (·.1)).Nodup
  mem : ∀ p h, h ∈ rowM p m ↔ C p h
  nd : ∀ p, (rowM p m).Nodup
  key : ∀ p, p ∈ m.map (·.1) → ∃ h, C p h
theorem cracksOf_holds (hV : VReg r) : Holds' (cracksOf r) (isC (inG r)) := by
  have hk := keys_addAll (rowsAdds none r.rows) [] List.nodup_nil
  refine ⟨hk.1, fun p h => ?_, fun p => ?_, fun p hp => ?_⟩
  · unfold cracksOf
    rw [rowM_addAll, rowM, List.nil_append, List.mem_map]
    constructor
    · rintro ⟨a, ha, rfl⟩
      rw [List.mem_filter] at ha
      obtain ⟨h1, h2⟩ := ha
      simp at h2; subst h2
      exact (mem_adds hV a).1 h1
    · intro hC
      exact ⟨(p, h), by rw [List.mem_filter]; exact ⟨(mem_adds hV (p, h)).2 hC, by simp⟩, rfl⟩
  · unfold cracksOf
    rw [rowM_addAll, rowM, List.nil_append]
    have h1 := (nodup_adds hV).filter (fun a => decide (a.1 = p))
    unfold List.Nodup
    rw [List.pairwise_map]
    refine List.Pairwise.imp_of_mem (fun {a b} ha hb hne e => ?_) h1
    rw [List.mem_filter] at ha hb
    have e1 := ha.2; have e2 := hb.2
    simp only [decide_eq_true_eq] at e1 e2
    exact hne (Prod.ext (e1.trans e2.symm) e)
  · obtain ⟨a, ha, rfl⟩ := ((hk.2 p).1 hp).resolve_right (by simp)
    exact ⟨a.2, (mem_adds hV a).1 ha⟩
end
end Go.AM
end
section
namespace Go.AM
open Go
structure Cr where
  p : Pt
  h : Int
  deriving DecidableEq, Inhabited
def stp (p : Pt) (h : Int) : Pt := if h = 0 then ⟨p.x + 1, p.y⟩ else if h = 1 then ⟨p.x, p.y + 1⟩ else if h = 2 then ⟨p.x - 1, p.y⟩ else ⟨p.x, p.y - 1⟩
def bck (p : Pt) (h : Int) : Pt := if h = 0 then ⟨p.x - 1, p.y⟩ else if h = 1 then ⟨p.x, p.y - 1⟩ else if h = 2 then ⟨p.x + 1, p.y⟩ else ⟨p.x, p.y + 1⟩
def lf (h : Int) : Int := if h = 0 then 1 else if h = 1 then 2 else if h = 2 then 3 else 0
def rt (h : Int) : Int := if h = 0 then 3 else if h = 1 then 0 else if h = 2 then 1 else 2
abbrev isCr (S : Int → Int → Prop) (c : Cr) : Prop := isC S c.p c.h
noncomputable section
open Classical in
/-- The crack behind a crack: to the left, if there is one; else straight on; else to the right. -/
def nxt (S : Int → Int → Prop) (c : Cr) : Cr :=
  if isC S (stp c.p c.h) (lf c.h) then ⟨stp c.p c.h, lf c.h⟩ else if isC S (stp c.p c.h) c.h then ⟨stp c.p c.h, c.h⟩ else ⟨stp c.p c.h, rt c.h⟩
open Classical in
def prv (S : Int → Int → Prop) (c : Cr) : Cr :=
  if isC S (bck c.p (rt c.h)) (rt c.h) then ⟨bck c.p (rt c.h), rt c.h⟩ else if isC S (bck c.p c.h) c.h then ⟨bck c.p c.h, c.h⟩ else ⟨bck c.p (lf c.h), lf c.h⟩
variable {S : Int → Int → Prop}
theorem isC_h {p : Pt} {h : Int} (hc : isC S p h) : h = 0 ∨ h = 1 ∨ h = 2 ∨ h = 3 := by
  rcases hc with ⟨e, _⟩ | ⟨e, _⟩ | ⟨e, _⟩ | ⟨e, _⟩ <;> simp [e]
theorem isC0 {p : Pt} : isC S p 0 ↔ S p.x p.y ∧ ¬ S p.x (p.y - 1) := by unfold isC; simp
theorem isC1 {p : Pt} : isC S p 1 ↔ S (p.x - 1) p.y ∧ ¬ S p.x p.y := by unfold isC; simp
theorem isC2 {p : Pt} : isC S p 2 ↔ S (p.x - 1) (p.y - 1) ∧ ¬ S (p.x - 1) p.y := by unfold isC; simp
theorem isC3 {p : Pt} : isC S p 3 ↔ S p.x (p.y - 1) ∧ ¬ S (p.x - 1) (p.y - 1) := by unfold isC; simp
theorem nxt_p (S : Int → Int → Prop) (c : Cr) : (nxt S c).p = stp c.p c.h := by
  unfold nxt
  split
  · rfl
  · split <;> rfl
/-- What lies round the end of a crack. -/
theorem nxt_cases {c : Cr} (hc : isCr S c) : isCr S (nxt S c) ∧ prv S (nxt S c) = c := by
  obtain ⟨⟨x, y⟩, h⟩ := c
  have hc' : isC S ⟨x, y⟩ h := hc
  rcases isC_h hc' with rfl | rfl | rfl | rfl
  · rw [isC0] at hc'
    simp only at hc'
    obtain ⟨h1, h2⟩ := hc'
    have e1 : x + 1 - 1 = x := by omega
    by_cases hAL : S (x + 1) y <;> by_cases hAR : S (x + 1) (y - 1) <;>
      simp [isCr, nxt, prv, stp, bck, lf, rt, isC0, isC1, isC2, isC3, h1, h2, hAL, hAR, e1]
  · rw [isC1] at hc'
    simp only at hc'
    obtain ⟨h1, h2⟩ := hc'
    have e1 : y + 1 - 1 = y := by omega
    have e2 : x - 1 + 1 = x := by omega
    by_cases hAL : S (x - 1) (y + 1) <;> by_cases hAR : S x (y + 1) <;>
      simp [isCr, nxt, prv, stp, bck, lf, rt, isC0, isC1, isC2, isC3, h1, h2, hAL, hAR, e1]
  · rw [isC2] at hc'
    simp only at hc'
    obtain ⟨h1, h2⟩ := hc'
    have e1 : x - 1 + 1 = x := by omega
    have e2 : y - 1 + 1 = y := by omega
    by_cases hAL : S (x - 1 - 1) (y - 1) <;> by_cases hAR : S (x - 1 - 1) y <;>
      simp [isCr, nxt, prv, stp, bck, lf, rt, isC0, isC1, isC2, isC3, h1, h2, hAL, hAR, e1]
  · rw [isC3] at hc'
    simp only at hc'
    obtain ⟨h1, h2⟩ := hc'
    have e1 : x - 1 + 1 = x := by omega
    have e2 : y - 1 + 1 = y := by omega
    by_cases hAL : S x (y - 1 - 1) <;> by_cases hAR : S (x - 1) (y - 1 - 1) <;>
      simp [isCr, nxt, prv, stp, bck, lf, rt, isC0, isC1, isC2, isC3, h1, h2, hAL, hAR, e2]
theorem nxt_isCr {c : Cr} (hc : isCr S c) : isCr S (nxt S c) := (nxt_cases hc).1
theorem nxt_inj {a b : Cr} (ha : isCr S a) (hb : isCr S b) (h : nxt S a = nxt S b) : a = b := by
  rw [← (nxt_cases ha).2, ← (nxt_cases hb).2, h]
/-- i cracks on. -/
def it (S : Int → Int → Prop) : Nat → Cr → Cr
  | 0, c => c
  | n + 1, c => nxt S (it S n c)
theorem it_isCr {c : Cr} (hc : isCr S c) : ∀ n, isCr S (it S n c)
  | 0 => hc
  | n + 1 => nxt_isCr (it_isCr hc n)
theorem it_add (c : Cr) (m : Nat) : ∀ n, it S (m + n) c = it S n (it S m c)
  | 0 => rfl
  | n + 1 => by rw [← Nat.add_assoc]; show nxt S (it S (m + n) c) = nxt S (it S n (it S m c)); rw [it_add c m n]
theorem it_nxt (c : Cr) (n : Nat) : it S n (nxt S c) = it S (n + 1) c := by rw [Nat.add_comm, it_add]; rfl
theorem it_cancel {c : Cr} (hc : isCr S c) : ∀ (i d : Nat), it S (i + d) c = it S i c → it S d c = c
  | 0, d, h => by rw [Nat.zero_add] at h; exact h
  | i + 1, d, h => by
    refine it_cancel hc i d ?_
    rw [show i + 1 + d = i + d + 1 by omega] at h
    exact nxt_inj (it_isCr hc _) (it_isCr hc _) h
theorem nodup_sub_len {α : Type} [DecidableEq α] : ∀ {l m : List α}, l.Nodup → (∀ x ∈ l, x ∈ m) → l.length ≤ m.length
  | [], m, _, _ => Nat.zero_le _
  | a :: l, m, hn, h => by
    rw [List.nodup_cons] at hn
    have ha := h a (by simp)
    have := nodup_sub_len (l := l) (m := m.erase a) hn.2 fun x hx => by
      have hne : x ≠ a := fun e => hn.1 (e ▸ hx)
      exact (List.mem_erase_of_ne hne).2 (h x (by simp [hx]))
    rw [List.length_erase_of_mem ha] at this
    have := List.length_pos_of_mem ha
    simp only [List.length_cons]; omega
/-- The cracks are finitely many. -/
def FinS (S : Int → Int → Prop) : Prop := ∃ L : List Cr, ∀ c, isCr S c → c ∈ L
/-- The loop from c on has n cracks. -/
structure Per (S : Int → Int → Prop) (c : Cr) (n : Nat) : Prop where
  pos : 0 < n
  back : it S n c = c
  first : ∀ i, 0 < i → i < n → it S i c ≠ c
theorem exists_back {L : List Cr} (hL : ∀ c, isCr S c → c ∈ L) {c : Cr} (hc : isCr S c) : ∃ n, 0 < n ∧ n ≤ L.length ∧ it S n c = c := by
  refine Classical.byContradiction fun hno => ?_
  have hnd : ((List.range (L.length + 1)).map fun i => it S i c).Nodup := by
    unfold List.Nodup
    rw [List.pairwise_map]
    refine List.Pairwise.imp_of_mem (fun {i j} hi hj hlt e => ?_) List.pairwise_lt_range
    rw [List.mem_range] at hi hj
    obtain ⟨d, rfl⟩ : ∃ d, j = i + d := ⟨j - i, by omega⟩
    exact hno ⟨d, by omega, by omega, it_cancel hc i d e.symm⟩
  have := nodup_sub_len hnd fun x hx => by
    rw [List.mem_map] at hx
    obtain ⟨i, _, rfl⟩ := hx
    exact hL _ (it_isCr hc i)
  simp at this
  omega
theorem exists_least {Q : Nat → Prop} : ∀ (n : Nat), Q n → ∃ m, m ≤ n ∧ Q m ∧ ∀ i, i < m → ¬ Q i := by
  intro n
  induction n using Nat.strongRecOn with
  | ind n ih =>
    intro h
    by_cases hh : ∃ i, i < n ∧ Q i
    · obtain ⟨i, hi, hq⟩ := hh
      obtain ⟨m, h1, h2, h3⟩ := ih i hi hq
      exact ⟨m, by omega, h2, h3⟩
    · exact ⟨n, Nat.le_refl _, h, fun i hi hq => hh ⟨i, hi, hq⟩⟩
theorem exists_per (hF : FinS S) {c : Cr} (hc : isCr S c) : ∃ n, Per S c n := by
  obtain ⟨L, hL⟩ := hF
  obtain ⟨n, h1, _, h2⟩ := exists_back hL hc
  obtain ⟨m, _, ⟨h3, h4⟩, h5⟩ := exists_least (Q := fun n => 0 < n ∧ it S n c = c) n ⟨h1, h2⟩
  exact ⟨m, h3, h4, fun i hi hlt he => h5 i hlt ⟨hi, he⟩⟩
theorem Per.uniq {c : Cr} {n m : Nat} (h : Per S c n) (k : Per S c m) : n = m := by
  rcases Nat.lt_trichotomy n m with h1 | h1 | h1
  · exact absurd h.back (k.first n h.pos h1)
  · exact h1
  · exact absurd k.back (h.first m k.pos h1)
theorem Per.inj {c : Cr} {n : Nat} (h : Per S c n) (hc : isCr S c) {i j : Nat} (hi : i < n) (hj : j < n) (e : it S i c = it S j c) : i = j := by
  rcases Nat.lt_trichotomy i j with h1 | h1 | h1
  · obtain ⟨d, rfl⟩ : ∃ d, j = i + d := ⟨j - i, by omega⟩
    exact absurd (it_cancel hc i d e.symm) (h.first d (by omega) (by omega))
  · exact h1
  · obtain ⟨d, rfl⟩ : ∃ d, i = j + d := ⟨i - j, by omega⟩
    exact absurd (it_cancel hc j d e) (h.first d (by omega) (by omega))
theorem Per.mul {c : Cr} {n : Nat} (h : Per S c n) : ∀ q r, it S (n * q + r) c = it S r c
  | 0, r => by simp
  | q + 1, r => by
    rw [show n * (q + 1) + r = n + (n * q + r) by rw [Nat.mul_succ]; omega, it_add, h.back]; exact h.mul q r
theorem Per.mod {c : Cr} {n : Nat} (h : Per S c n) (i : Nat) : it S i c = it S (i % n) c := by
  have := h.mul (i / n) (i % n)
  rwa [Nat.div_add_mod] at this
/-- On the same loop. -/
def Same (S : Int → Int → Prop) (c d : Cr) : Prop := ∃ i, it S i c = d
theorem Same.refl (c : Cr) : Same S c c := ⟨0, rfl⟩
theorem Same.trans {a b c : Cr} (h : Same S a b) (k : Same S b c) : Same S a c := by
  obtain ⟨i, rfl⟩ := h; obtain ⟨j, rfl⟩ := k
  exact ⟨i + j, it_add a i j⟩
theorem Same.symm (hF : FinS S) {a b : Cr} (ha : isCr S a) (h : Same S a b) : Same S b a := by
  obtain ⟨i, rfl⟩ := h
  obtain ⟨n, hn⟩ := exists_per hF ha
  refine ⟨n - i % n, ?_⟩
  have h1 := Nat.mod_lt i hn.pos
  rw [hn.mod i, ← it_add, show i % n + (n - i % n) = n by omega, hn.back]
theorem Same.isCr {a b : Cr} (ha : isCr S a) (h : Same S a b) : isCr S b := by obtain ⟨i, rfl⟩ := h; exact it_isCr ha i
theorem Per.shift {c : Cr} {n : Nat} (h : Per S c n) (hc : isCr S c) (i : Nat) : Per S (it S i c) n := by
  refine ⟨h.pos, ?_, fun j hj hlt e => ?_⟩
  · rw [← it_add, Nat.add_comm, it_add, h.back]
  · rw [← it_add] at e
    exact h.first j hj hlt (it_cancel hc i j e)
end
end Go.AM
end
section
namespace Go.AM
open Go
theorem getT_rowM (p : Pt) : ∀ (m : Cracks), getT ([] : List Int) p m = rowM p m
  | [] => rfl
  | (q, l) :: m => by simp only [getT, rowM, getT_rowM p m]
theorem Index_eq (l : List Int) (hl : l.length ≤ 1099511627776) (v : Int) : Ret (slices_Index l v) fun n => (∃ k : Nat, n = k ∧ l[k]? = some v) ∨ (v ∉ l ∧ n = -1) := by
  unfold slices_Index
  refine Ret.bind (Q' := fun o => match o with | .inl _ => v ∉ l | .inr n => ∃ k : Nat, n = k ∧ l[k]? = some v) ?_ (fun o ho => ?_)
  · refine Ret.loop (I := fun i : Int => ∃ k : Nat, i = k ∧ k ≤ l.length ∧ ∀ j, j < k → l[j]? ≠ some v) (μ := fun i : Int => l.length - i.toNat) (fun i hi => ?_) ⟨0, rfl, Nat.zero_le _, fun j hj => absurd hj (Nat.not_lt_zero _)⟩
    obtain ⟨k, rfl, hk, hI⟩ := hi
    unfold slices_Index_l1
    refine Ret.ifB (fun hlt => ?_) (fun hge => ?_)
    · rw [decide_eq_true_eq] at hlt
      have hk' : k < l.length := by omega
      refine Ret.getI rfl hk' (Ret.ifB (fun h => ?_) (fun h => ?_))
      · rw [beq_iff_eq] at h
        exact Ret.mk ⟨k, rfl, by rw [List.getElem?_eq_getElem hk', h]⟩
      · have h' : v ≠ l[k] := fun e => by rw [← e] at h; simp at h
        refine Ret.chk (inR (by omega) (by omega)) (Ret.mk ⟨⟨k + 1, by omega, by omega, fun j hj => ?_⟩, by omega⟩)
        rcases Nat.lt_or_ge j k with h1 | h1
        · exact hI j h1
        · have : j = k := by omega
          subst this
          rw [List.getElem?_eq_getElem hk']
          exact fun e => h' (Option.some.inj e).symm
    · rw [decide_eq_false_iff_not] at hge
      refine Ret.mk (fun hm => ?_)
      obtain ⟨j, hj, e⟩ := List.getElem_of_mem hm
      exact hI j (by omega) (by rw [List.getElem?_eq_getElem hj, e])
  · cases o with
    | inl _ => exact Ret.mk (.inr ⟨ho, rfl⟩)
    | inr n => exact Ret.mk (.inl ho)
theorem Contains_eq (l : List Int) (hl : l.length ≤ 1099511627776) (v : Int) : slices_Contains l v = some (decide (v ∈ l)) := by
  refine Ret.eq ?_
  unfold slices_Contains
  refine Ret.bind (Index_eq l hl v) fun n hn => Ret.mk ?_
  rcases hn with ⟨k, rfl, hk⟩ | ⟨h1, rfl⟩
  · rw [decide_eq_true (List.mem_of_getElem? hk), decide_eq_true (by omega)]
  · rw [decide_eq_false h1]; rfl
theorem rowM_delT (p q : Pt) : ∀ (m : Cracks), (m.map (·.1)).Nodup → rowM q (delT p m) = if q = p then [] else rowM q m
  | [], _ => by simp [delT, rowM]
  | (a, l) :: m, hn => by
    rw [List.map_cons, List.nodup_cons] at hn
    simp only [delT]
    by_cases e : p = a
    · subst e
      rw [if_pos rfl]
      by_cases e2 : q = p
      · subst e2
        rw [if_pos rfl]
        have : ∀ (m : Cracks), q ∉ m.map (·.1) → rowM q m = [] := by
          intro m
          induction m with
          | nil => intro _; rfl
          | cons x m ih =>
            intro h
            obtain ⟨b, k⟩ := x
            simp only [List.map_cons, List.mem_cons, not_or] at h
            simp only [rowM]; rw [if_neg h.1]; exact ih h.2
        exact this m hn.1
      · rw [if_neg e2]; simp only [rowM]; rw [if_neg e2]
    · rw [if_neg e]
      simp only [rowM, rowM_delT p q m hn.2]
      by_cases e2 : q = a
      · subst e2; rw [if_pos rfl, if_pos rfl, if_neg (Ne.symm e)]
      · rw [if_neg e2, if_neg e2]
theorem keys_delT (p : Pt) : ∀ (m : Cracks), ((delT p m).map (·.1)).Sublist (m.map (·.1))
  | [] => List.Sublist.refl _
  | (a, l) :: m => by
    simp only [delT]
    split
    · exact List.sublist_cons_self _ _
    · exact (keys_delT p m).cons_cons a
theorem rowM_setT (p q : Pt) (v : List Int) : ∀ (m : Cracks), rowM q (setT p v m) = if q = p then v else rowM q m
  | [] => by simp only [setT, rowM]
  | (a, l) :: m => by
    simp only [setT]
    by_cases e : p = a
    · subst e
      rw [if_pos rfl]
      simp only [rowM]
      by_cases e2 : q = p <;> simp [e2]
    · rw [if_neg e]
      simp only [rowM, rowM_setT p q v m]
      by_cases e2 : q = a
      · subst e2; rw [if_pos rfl, if_pos rfl, if_neg (Ne.symm e)]
      · rw [if_neg e2, if_neg e2]
theorem keys_setT (p : Pt) (v : List Int) : ∀ (m : Cracks), p ∈ m.map (·.1) → (setT p v m).map (·.1) = m.map (·.1)
  | [], h => by cases h
  | (a, l) :: m, h => by
    simp only [setT]
    by_cases e : p = a
    · subst e; rw [if_pos rfl]; rfl
    · rw [if_neg e, List.map_cons, List.map_cons, keys_setT p v m]
      rcases List.mem_cons.1 h with h | h
      · exact absurd h e
      · exact h
theorem rowM_key {p : Pt} : ∀ {m : Cracks}, rowM p m ≠ [] → p ∈ m.map (·.1)
  | [], h => absurd rfl h
  | (a, l) :: m, h => by
    simp only [rowM] at h
    by_cases e : p = a
    · subst e; simp
    · rw [if_neg e] at h; simp only [List.map_cons, List.mem_cons]; exact .inr (rowM_key h)
/-- The map holds the cracks C; a corner may stand there without any. -/
structure Has (m : Cracks) (C : Pt → Int → Prop) : Prop where
  keys : (m.map (·.1)).Nodup
  mem : ∀ p h, h ∈ rowM p m ↔ C p h
  nd : ∀ p, (rowM p m).Nodup
  sane : ∀ p h, C p h → h = 0 ∨ h = 1 ∨ h = 2 ∨ h = 3
theorem Has.short {m : Cracks} {C : Pt → Int → Prop} (h : Has m C) (p : Pt) : (rowM p m).length ≤ 4 :=
  nodup_sub_len (m := [0, 1, 2, 3]) (h.nd p) fun x hx => by
    rcases h.sane p x ((h.mem p x).1 hx) with rfl | rfl | rfl | rfl <;> simp
theorem Has.congr {m : Cracks} {C C' : Pt → Int → Prop} (h : Has m C) (he : ∀ p k, C p k ↔ C' p k) : Has m C' := ⟨h.keys, fun p k => (h.mem p k).trans (he p k), h.nd, fun p k hk => h.sane p k ((he p k).2 hk)⟩
theorem erase_mem {l : List Int} (hn : l.Nodup) {k : Nat} {v : Int} (hk : l[k]? = some v) (x : Int) : x ∈ l.take k ++ l.drop (k + 1) ↔ x ∈ l ∧ x ≠ v := by
  have hkl := (List.getElem?_eq_some_iff.1 hk).1
  have hd : l.drop k = v :: l.drop (k + 1) := by
    rw [List.drop_eq_getElem_cons hkl]; rw [List.getElem?_eq_getElem hkl] at hk; rw [Option.some.inj hk]
  have e : l = l.take k ++ (v :: l.drop (k + 1)) := by rw [← hd, List.take_append_drop]
  have hn' := hn
  rw [e, List.nodup_append, List.nodup_cons] at hn'
  obtain ⟨_, ⟨h1, _⟩, h2⟩ := hn'
  constructor
  · intro hx
    rw [List.mem_append] at hx
    refine ⟨by rw [e]; simp only [List.mem_append, List.mem_cons]; rcases hx with h | h <;> simp [h], fun ex => ?_⟩
    subst ex
    rcases hx with h | h
    · exact h2 x h x (by simp) rfl
    · exact h1 h
  · rintro ⟨hx, hne⟩
    rw [e] at hx
    simp only [List.mem_append, List.mem_cons] at hx ⊢
    rcases hx with h | h | h
    · exact .inl h
    · exact absurd h hne
    · exact .inr h
theorem erase_nodup {l : List Int} (hn : l.Nodup) (k : Nat) : (l.take k ++ l.drop (k + 1)).Nodup := by
  refine hn.sublist ?_
  have h := (List.Sublist.refl (l.take k)).append (List.drop_sublist 1 (l.drop k))
  rwa [List.drop_drop, List.take_append_drop] at h
theorem take_eq {m : Cracks} {C : Pt → Int → Prop} (hm : Has m C) {p : Pt} {h : Int} (hC : C p h) :
    Ret (boundary_cracks_take m p h) fun v => v.1 = true ∧ Has v.2 fun q k => C q k ∧ ¬ (q = p ∧ k = h) := by
  have hlen := hm.short p
  have hin : h ∈ rowM p m := (hm.mem p h).2 hC
  have hpos := List.length_pos_of_mem hin
  unfold boundary_cracks_take
  rw [getT_rowM]
  refine Ret.bind (Index_eq _ (by omega) h) fun n hn => ?_
  rcases hn with ⟨k, rfl, hk⟩ | ⟨h1, _⟩
  case inr => exact absurd hin h1
  have hkl := (List.getElem?_eq_some_iff.1 hk).1
  refine Ret.ifF (by rw [decide_eq_false_iff_not]; omega) ?_
  refine Ret.bind (Q' := fun m' => Has m' fun q k => C q k ∧ ¬ (q = p ∧ k = h)) ?_ (fun m' hm' => Ret.mk ⟨rfl, hm'⟩)
  unfold boundary_cracks_take_j1
  rw [getT_rowM]
  refine Ret.ifB (fun h1 => Ret.mk ?_) (fun h1 => ?_)
  · rw [beq_iff_eq] at h1
    have hrow : rowM p m = [h] := by
      match hrm : rowM p m, h1, hk with
      | [a], _, hk =>
        have : k = 0 := by rw [hrm] at hkl; simp at hkl; exact hkl
        subst this; simp at hk; rw [hk]
      | [], h1, _ => simp at h1
      | _ :: _ :: _, h1, _ => simp at h1; omega
    refine ⟨hm.keys.sublist (keys_delT p m), fun q k => ?_, fun q => ?_, fun q k hk => hm.sane q k hk.1⟩
    · rw [rowM_delT p q m hm.keys]
      by_cases e : q = p
      · subst e
        rw [if_pos rfl, ← hm.mem, hrow]
        simp
      · rw [if_neg e, hm.mem]
        constructor
        · exact fun hc => ⟨hc, fun hh => e hh.1⟩
        · exact fun hc => hc.1
    · rw [rowM_delT p q m hm.keys]
      split
      · exact List.nodup_nil
      · exact hm.nd q
  · have hne : rowM p m ≠ [] := fun e => by rw [e] at hin; cases hin
    have hcl : slices_Clone (rowM p m) = some (rowM p m) := by
      refine Ret.eq ?_
      unfold slices_Clone
      exact Ret.chk hne (Ret.chk (by simp; omega) (Ret.mk rfl))
    refine Ret.bindE hcl (Ret.chk (inR (by omega) (by omega)) ?_)
    have hdel : hd_delete (rowM p m) k (k + 1) = some ((rowM p m).take k ++ (rowM p m).drop (k + 1)) := by
      unfold hd_delete chk
      rw [if_pos ⟨hne, by omega, by omega, by omega⟩]
      rw [Int.toNat_natCast, show ((k : Int) + 1).toNat = k + 1 by omega]
    refine Ret.bindE hdel (Ret.mk ?_)
    refine ⟨by rw [keys_setT p _ m (rowM_key hne)]; exact hm.keys, fun q j => ?_, fun q => ?_, fun q k hk => hm.sane q k hk.1⟩
    · rw [rowM_setT]
      by_cases e : q = p
      · subst e
        rw [if_pos rfl, erase_mem (hm.nd q) hk, hm.mem]
        constructor
        · exact fun hc => ⟨hc.1, fun hh => hc.2 hh.2⟩
        · exact fun hc => ⟨hc.1, fun hh => hc.2 ⟨rfl, hh⟩⟩
      · rw [if_neg e, hm.mem]
        constructor
        · exact fun hc => ⟨hc, fun hh => e hh.1⟩
        · exact fun hc => hc.1
    · rw [rowM_setT]
      split
      · exact erase_nodup (hm.nd p) k
      · exact hm.nd q
theorem from_eq {p : Pt} {h : Int} (hp : -1048576 ≤ p.x ∧ p.x ≤ 1048576 ∧ -1048576 ≤ p.y ∧ p.y ≤ 1048576) : boundary_heading_from h p = some (stp p h) := by
  refine Ret.eq ?_
  unfold boundary_heading_from
  refine Ret.bind (Q' := fun q => (⟨q.1, q.2⟩ : Pt) = stp p h) ?_ (fun q hq => Ret.mk hq)
  unfold boundary_heading_from_j1 stp
  refine Ret.ifB (fun e => ?_) (fun e => ?_)
  · rw [beq_iff_eq] at e; rw [if_pos e]; exact Ret.chk (inR (by omega) (by omega)) (Ret.mk rfl)
  have e0 : h ≠ 0 := fun q => by subst q; simp at e
  rw [if_neg e0]
  refine Ret.ifB (fun e => ?_) (fun e => ?_)
  · rw [beq_iff_eq] at e; rw [if_pos e]; exact Ret.chk (inR (by omega) (by omega)) (Ret.mk rfl)
  have e1 : h ≠ 1 := fun q => by subst q; simp at e
  rw [if_neg e1]
  refine Ret.ifB (fun e => ?_) (fun e => ?_)
  · rw [beq_iff_eq] at e; rw [if_pos e]; exact Ret.chk (inR (by omega) (by omega)) (Ret.mk rfl)
  have e2 : h ≠ 2 := fun q => by subst q; simp at e
  rw [if_neg e2]
  exact Ret.chk (inR (by omega) (by omega)) (Ret.mk rfl)
theorem left_eq {h : Int} (hh : h = 0 ∨ h = 1 ∨ h = 2 ∨ h = 3) : boundary_heading_left h = some (lf h) := by
  rcases hh with rfl | rfl | rfl | rfl <;> exact Ret.eq (Ret.chk (by decide) (Ret.mk rfl))
theorem right_eq {h : Int} (hh : h = 0 ∨ h = 1 ∨ h = 2 ∨ h = 3) : boundary_heading_right h = some (rt h) := by
  rcases hh with rfl | rfl | rfl | rfl <;> exact Ret.eq (Ret.chk (by decide) (Ret.mk rfl))
end Go.AM
end
section
namespace Go.AM
open Go
noncomputable section
variable {S : Int → Int → Prop}
/-- Where the direction changes, up to crack n. -/
def turns (S : Int → Int → Prop) (c : Cr) : Nat → List Pt
  | 0 => []
  | i + 1 => turns S c i ++ (if (it S (i + 1) c).h ≠ (it S i c).h then [(it S (i + 1) c).p] else [])
def corners (S : Int → Int → Prop) (c : Cr) (n : Nat) : List Pt := c.p :: turns S c (n - 1)
theorem turns_len (c : Cr) : ∀ i, (turns S c i).length ≤ i
  | 0 => Nat.le_refl _
  | i + 1 => by
    have := turns_len c i
    simp only [turns]
    split
    · simp; omega
    · simp; omega
/-- Corners of cracks lie within the bounds. -/
def Near (S : Int → Int → Prop) : Prop := ∀ c, isCr S c → -1048575 ≤ c.p.x ∧ c.p.x ≤ 1048575 ∧ -1048575 ≤ c.p.y ∧ c.p.y ≤ 1048575
/-- The cracks left when i of the loop are taken. -/
def less (S : Int → Int → Prop) (C : Pt → Int → Prop) (c : Cr) (i : Nat) : Pt → Int → Prop := fun q k => C q k ∧ ∀ j, j < i → it S j c ≠ ⟨q, k⟩
theorem sel {d : Cr} (S : Int → Int → Prop) (D : Pt → Int → Prop) (hD : ∀ p h, D p h → isC S p h) : ∃ j, j < 3 ∧ [lf d.h, d.h, rt d.h][j]? = some (nxt S d).h ∧ ∀ k, k < j → ∀ x, [lf d.h, d.h, rt d.h][k]? = some x → ¬ D (stp d.p d.h) x := by
  unfold nxt
  split
  · exact ⟨0, by decide, rfl, fun k hk => absurd hk (Nat.not_lt_zero _)⟩
  · rename_i h1
    split
    · refine ⟨1, by decide, rfl, fun k hk x hx hd => ?_⟩
      have : k = 0 := by omega
      subst this; simp at hx; subst hx; exact h1 (hD _ _ hd)
    · rename_i h2
      refine ⟨2, by decide, rfl, fun k hk x hx hd => ?_⟩
      rcases (show k = 0 ∨ k = 1 by omega) with rfl | rfl
      · simp at hx; subst hx; exact h1 (hD _ _ hd)
      · simp at hx; subst hx; exact h2 (hD _ _ hd)
theorem walk_eq (hB : Near S) {m : Cracks} {C : Pt → Int → Prop} (hm : Has m C) (hCS : ∀ p h, C p h → isC S p h) (hcl : ∀ d : Cr, C d.p d.h → C (nxt S d).p (nxt S d).h) {c : Cr} (hc : C c.p c.h) (honly : ∀ h, C c.p h → h = c.h) {n : Nat} (hn : Per S c n) (hsm : n ≤ 1000000000) :
    Ret (boundary_cracks_walk m c.p) fun v => v.1.pts = corners S c n ∧ Has v.2 (less S C c n) := by
  have hcS : isCr S c := hCS _ _ hc
  have hit : ∀ i, C (it S i c).p (it S i c).h := fun i => by
    induction i with
    | zero => exact hc
    | succ i ih => exact hcl _ ih
  have hrow : rowM c.p m = [c.h] := by
    have h1 := hm.nd c.p
    have h2 : ∀ x, x ∈ rowM c.p m ↔ x = c.h := fun x => by
      rw [hm.mem]; exact ⟨honly x, fun e => e ▸ hc⟩
    match hr : rowM c.p m with
    | [] => have := (h2 c.h).2 rfl; rw [hr] at this; cases this
    | [a] => have := (h2 a).1 (by rw [hr]; simp); rw [this]
    | a :: b :: l =>
      rw [hr] at h1
      have ha := (h2 a).1 (by rw [hr]; simp)
      have hb := (h2 b).1 (by rw [hr]; simp)
      rw [List.nodup_cons] at h1
      exact absurd (show a ∈ b :: l by rw [ha, hb]; simp) h1.1
  unfold boundary_cracks_walk
  rw [getT_rowM, hrow]
  refine Ret.getI (k := 0) rfl (Nat.le_of_ble_eq_true rfl) ?_
  refine Ret.bind (Q' := fun o => o.1 = corners S c n ∧ Has o.2 (less S C c n)) ?_ (fun o ho => Ret.mk ho)
  refine Ret.loopN (I := fun (k : Nat) (s : Int × Cracks × List Pt × Int × Int) => ∃ i, k + i = n ∧ i < n ∧ s.1 = (it S i c).h ∧ Has s.2.1 (less S C c i) ∧ s.2.2.1 = c.p :: turns S c i ∧ s.2.2.2.1 = (it S i c).p.x ∧ s.2.2.2.2 = (it S i c).p.y)
    (fun k s hs => ?_) n ⟨0, by omega, hn.pos, rfl, hm.congr fun p h => ⟨fun h => ⟨h, fun j hj => absurd hj (Nat.not_lt_zero _)⟩, fun h => h.1⟩, rfl, rfl, rfl⟩
  obtain ⟨h3, m1, out, px, py⟩ := s
  obtain ⟨i, hk, hi, e1, hH, e2, e3, e4⟩ := hs
  simp only at e1 hH e2 e3 e4
  subst e1; subst e2; subst e3; subst e4
  generalize hd : it S i c = d at hH
  have hdp : (⟨d.p.x, d.p.y⟩ : Pt) = d.p := rfl
  have hdS : isCr S d := by rw [← hd]; exact it_isCr hcS i
  have hdC : less S C c i d.p d.h := ⟨by rw [← hd]; exact hit i, fun j hj e => by
    have := hn.inj hcS (show j < n by omega) hi (e.trans hd.symm)
    omega⟩
  have hnx : it S (i + 1) c = nxt S d := by rw [← hd]; rfl
  have hlessS : ∀ p h, less S C c i p h → isC S p h := fun p h hh => hCS p h hh.1
  unfold boundary_cracks_walk_l3
  simp only
  refine Ret.bind (take_eq hH hdC) fun v hv => ?_
  obtain ⟨v1, v2⟩ := v
  obtain ⟨hv1, hv2⟩ := hv
  simp only at hv1 hv2
  subst hv1
  have hH2 : Has v2 (less S C c (i + 1)) := hv2.congr fun q k => by
    unfold less
    constructor
    · rintro ⟨⟨q1, q2⟩, q3⟩
      refine ⟨q1, fun j hj e => ?_⟩
      rcases Nat.lt_or_ge j i with h | h
      · exact q2 j h e
      · have : j = i := by omega
        subst this
        rw [hd] at e; subst e
        exact q3 ⟨rfl, rfl⟩
    · rintro ⟨q1, q2⟩
      refine ⟨⟨q1, fun j hj => q2 j (by omega)⟩, fun hh => ?_⟩
      obtain ⟨rfl, rfl⟩ := hh
      exact q2 i (by omega) hd
  refine Ret.ifT rfl ?_
  have hb := hB d hdS
  refine Ret.bindE (show boundary_heading_from d.h ⟨d.p.x, d.p.y⟩ = some (stp d.p d.h) from from_eq (p := d.p) (by omega)) ?_
  have hnp : (nxt S d).p = stp d.p d.h := nxt_p S d
  refine Ret.ifB (fun hst => ?_) (fun hst => ?_)
  · -- round
    simp only [Bool.and_eq_true, beq_iff_eq, and_true] at hst
    have hp : stp d.p d.h = c.p := by
      obtain ⟨q1, q2⟩ := hst
      cases hs : stp d.p d.h with
      | mk x y => rw [hs] at q1 q2; simp only at q1 q2; rw [q1, q2]
    have hin : i + 1 = n := by
      rcases Nat.lt_or_ge (i + 1) n with h | h
      · have hCn := hit (i + 1)
        rw [hnx, hnp, hp] at hCn
        have e : it S (i + 1) c = c := by
          rw [hnx]
          have := honly _ hCn
          cases hq : nxt S d with
          | mk p h =>
            rw [hq] at this hnp
            simp only at this hnp
            rw [this, hnp, hp]
        exact absurd e (hn.first (i + 1) (by omega) h)
      · omega
    refine Ret.mk ⟨?_, ?_⟩
    · unfold corners; rw [show n - 1 = i by omega]
    · rw [← hin]; exact hH2
  · have hne : i + 1 < n := by
      refine Classical.byContradiction fun hge => ?_
      have e : i + 1 = n := by omega
      have : (nxt S d).p = c.p := by rw [← hnx, e, hn.back]
      rw [hnp] at this
      rw [this] at hst
      simp at hst
    have hh := isC_h hdS
    refine Ret.bindE (left_eq hh) (Ret.bindE (right_eq hh) ?_)
    have hsel := sel (d := d) S (less S C c (i + 1)) (fun p h q => hCS p h q.1)
    obtain ⟨j, hj3, hjx, hjn⟩ := hsel
    have hnC : less S C c (i + 1) (nxt S d).p (nxt S d).h := by
      rw [← hnx]
      refine ⟨hit (i + 1), fun j hj e => ?_⟩
      have := hn.inj hcS (show j < n by omega) hne e
      omega
    rw [hnp] at hnC
    refine Ret.bind (Q' := fun o => o.1 = (nxt S d).h ∧ o.2 = c.p :: turns S c (i + 1)) ?_ (fun o ho => ?_)
    · refine Ret.loop (I := fun t : Int => ∃ k : Nat, t = k ∧ k ≤ j) (μ := fun t : Int => j - t.toNat) (fun t ht => ?_) ⟨0, rfl, Nat.zero_le _⟩
      obtain ⟨k, rfl, hkj⟩ := ht
      unfold boundary_cracks_walk_l2
      refine Ret.ifT (by rw [decide_eq_true_eq]; omega) ?_
      have hkl : k < [lf d.h, d.h, rt d.h].length := by simp; omega
      refine Ret.getI rfl hkl ?_
      simp only
      rw [getT_rowM]
      refine Ret.bindE (Contains_eq (rowM (stp d.p d.h) v2) (by have := hH2.short (stp d.p d.h); omega) _) ?_
      rcases Nat.lt_or_ge k j with h | h
      · have hno := hjn k h _ (List.getElem?_eq_getElem hkl)
        rw [decide_eq_false (fun hm => hno ((hH2.mem _ _).1 hm))]
        exact Ret.ifF rfl (Ret.chk (inR (by omega) (by omega)) (Ret.mk ⟨⟨k + 1, by omega, by omega⟩, by omega⟩))
      · have : k = j := by omega
        subst this
        have hx : [lf d.h, d.h, rt d.h][k] = (nxt S d).h := by
          rw [List.getElem?_eq_getElem hkl] at hjx; exact Option.some.inj hjx
        rw [hx, decide_eq_true ((hH2.mem _ _).2 hnC)]
        refine Ret.ifT rfl ?_
        have htl := turns_len (S := S) c i
        refine Ret.bind (Q' := fun o => o = c.p :: turns S c (i + 1)) ?_ (fun o ho => Ret.mk ⟨rfl, ho⟩)
        unfold boundary_cracks_walk_j1
        simp only [turns, hnx, hd, hnp]
        refine Ret.ifB (fun hx2 => ?_) (fun hx2 => ?_)
        · rw [bne_iff_ne] at hx2
          rw [if_pos hx2]
          exact Ret.chk (by simp only [List.length_cons, List.length_nil]; omega) (Ret.mk rfl)
        · have : (nxt S d).h = d.h := by simpa using hx2
          rw [if_neg (fun hq => hq this)]
          exact Ret.mk (by simp)
    · obtain ⟨o1, o2⟩ := o
      obtain ⟨rfl, rfl⟩ := ho
      refine Ret.mk ⟨k - 1, by omega, i + 1, by omega, hne, by rw [hnx], hH2, rfl, ?_, ?_⟩
      · simp only; rw [hnx, hnp]
      · simp only; rw [hnx, hnp]
end
end Go.AM
end
