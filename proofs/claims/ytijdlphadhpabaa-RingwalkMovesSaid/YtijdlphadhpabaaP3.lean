/- The polygons of all loops, ordered by their least corners: there is one such list. -/
import Derived.Test.YtijdlphadhpabaaA3
import Derived.Test.YtijdlphadhpabaaA9
import Derived.Test.YtijdlphadhpabaaA1
import Derived.Test.YtijdlphadhpabaaA8
import Derived.Test.YtijdlphadhpabaaA6
import Derived.Test.YtijdlphadhpabaaA5
import Derived.Test.YtijdlphadhpabaaA7
import Derived.Test.YtijdlphadhpabaaA4
import Derived.Test.YtijdlphadhpabaaA2
import Derived.Test.YtijdlphadhpabaaP2
import Derived.Test.YtijdlphadhpabaaF1
import Derived.Test.YtijdlphadhpabaaF8
import Derived.Test.YtijdlphadhpabaaF9
section
namespace Go.AM
open Go
noncomputable section
variable {S : Int → Int → Prop}
def ltPt (p q : Pt) : Prop := p.y < q.y ∨ p.y = q.y ∧ p.x < q.x
theorem lePt_iff {p q : Pt} : lePt p q = true ↔ p.y < q.y ∨ p.y = q.y ∧ p.x ≤ q.x := by unfold lePt; rw [decide_eq_true_eq]
theorem lt_of_le_ne {p q : Pt} (h : lePt p q = true) (hne : p ≠ q) : ltPt p q := by
  rw [lePt_iff] at h; unfold ltPt
  obtain ⟨x1, y1⟩ := p
  obtain ⟨x2, y2⟩ := q
  simp only [ne_eq, Pt.mk.injEq] at h hne ⊢
  omega
theorem ltPt_irrefl (p : Pt) : ¬ ltPt p p := by unfold ltPt; omega
theorem ltPt_asymm {p q : Pt} (h : ltPt p q) : ¬ ltPt q p := by unfold ltPt at *; omega
/-- A polygon's first corner. -/
def hd (P : Poly) : Pt := P.pts.headD ⟨0, 0⟩
theorem hd_corners (c : Cr) (n : Nat) : hd ⟨corners S c n⟩ = c.p := rfl
/-- c begins at the least corner of its loop. -/
def LeastAt (S : Int → Int → Prop) (c : Cr) : Prop := ∀ i, lePt c.p (it S i c).p = true
/-- The polygon of a loop, from its least corner on. -/
def IsPoly (S : Int → Int → Prop) (P : Poly) : Prop := ∃ c n, isCr S c ∧ Per S c n ∧ LeastAt S c ∧ P = ⟨corners S c n⟩
structure Traces (S : Int → Int → Prop) (ps : List Poly) : Prop where
  sorted : ps.Pairwise (fun a b => ltPt (hd a) (hd b))
  mem : ∀ P, P ∈ ps ↔ IsPoly S P
theorem sorted_nodup {ps : List Poly} (h : ps.Pairwise (fun a b => ltPt (hd a) (hd b))) : ps.Nodup := h.imp fun h e => by subst e; exact ltPt_irrefl _ h
theorem Traces.uniq {ps qs : List Poly} (h : Traces S ps) (k : Traces S qs) : ps = qs := by
  have hp : ps.Perm qs := (List.perm_ext_iff_of_nodup (sorted_nodup h.sorted) (sorted_nodup k.sorted)).2 fun P => (h.mem P).trans (k.mem P).symm
  exact List.Perm.eq_of_pairwise (fun a b _ _ h1 h2 => absurd h2 (ltPt_asymm h1)) h.sorted k.sorted hp
/-! ### Bounds -/
theorem irange_len (a b : Int) : (irange a b).length = (b - a).toNat := by unfold irange; simp
/-- The points of the square. -/
def grid : List Pt := (irange (-4096) 4097).flatMap fun y => (irange (-4096) 4097).map fun x => ⟨x, y⟩
def gridC : List Cr := grid.flatMap fun p => [⟨p, 0⟩, ⟨p, 1⟩, ⟨p, 2⟩, ⟨p, 3⟩]
theorem flat_const {α β : Type} {f : α → List β} {k : Nat} : ∀ (l : List α), (∀ a, (f a).length = k) → (l.flatMap f).length = l.length * k
  | [], _ => by simp
  | a :: l, h => by rw [List.flatMap_cons, List.length_append, h a, flat_const l h, List.length_cons, Nat.succ_mul, Nat.add_comm]
theorem grid_len : grid.length = 67125249 := by
  unfold grid
  rw [flat_const (k := 8193) _ (fun a => by rw [List.length_map, irange_len]; rfl), irange_len]; rfl
theorem gridC_len : gridC.length = 268500996 := by
  unfold gridC
  rw [flat_const (k := 4) _ (fun a => rfl), grid_len]
def InSq (p : Pt) : Prop := -4096 ≤ p.x ∧ p.x ≤ 4096 ∧ -4096 ≤ p.y ∧ p.y ≤ 4096
theorem mem_grid {p : Pt} (h : InSq p) : p ∈ grid := by
  unfold grid InSq at *
  rw [List.mem_flatMap]
  exact ⟨p.y, mem_irange.2 (by omega), List.mem_map.2 ⟨p.x, mem_irange.2 (by omega), rfl⟩⟩
theorem mem_gridC {c : Cr} (h : InSq c.p) (hh : c.h = 0 ∨ c.h = 1 ∨ c.h = 2 ∨ c.h = 3) : c ∈ gridC := by
  unfold gridC
  rw [List.mem_flatMap]
  refine ⟨c.p, mem_grid h, ?_⟩
  obtain ⟨p, k⟩ := c
  simp only at hh
  rcases hh with rfl | rfl | rfl | rfl <;> simp
/-- The set lies within the grid's cells. -/
def Sq (S : Int → Int → Prop) : Prop := ∀ x y, S x y → -4096 ≤ x ∧ x < 4096 ∧ -4096 ≤ y ∧ y < 4096
theorem Sq.pt (h : Sq S) {c : Cr} (hc : isCr S c) : InSq c.p := by
  unfold InSq
  rcases hc with ⟨_, h1, _⟩ | ⟨_, h1, _⟩ | ⟨_, h1, _⟩ | ⟨_, h1, _⟩ <;> (have := h _ _ h1; omega)
theorem Sq.near (h : Sq S) : Near S := fun c hc => by have := h.pt hc; unfold InSq at this; omega
theorem Sq.fin (h : Sq S) : FinS S := ⟨gridC, fun _ hc => mem_gridC (h.pt hc) (isC_h hc)⟩
theorem Per.few (h : Sq S) {c : Cr} (hc : isCr S c) {n : Nat} (hn : Per S c n) : n ≤ 268500996 := by
  have hnd : ((List.range n).map fun i => it S i c).Nodup := by
    unfold List.Nodup
    rw [List.pairwise_map]
    refine List.Pairwise.imp_of_mem (fun {i j} hi hj hlt e => ?_) List.pairwise_lt_range
    rw [List.mem_range] at hi hj
    have := hn.inj hc hi hj e; omega
  have := nodup_sub_len hnd (m := gridC) fun x hx => by
    rw [List.mem_map] at hx
    obtain ⟨i, _, rfl⟩ := hx
    exact mem_gridC (h.pt (it_isCr hc i)) (isC_h (it_isCr hc i))
  rw [gridC_len] at this
  simpa using this
theorem sq_inG {r : Region} (hV : VReg r) : Sq (inG r) := fun x y ⟨w, hw, hy, z, hz, h1, h2⟩ => by
  have q := hV.1 w hw
  unfold RowIn at q
  have := q.2.2.2.1 z hz
  unfold RunIn at this
  omega
/-- What is left when a whole loop goes. -/
theorem less_closed {D : Pt → Int → Prop} (hDS : ∀ p h, D p h → isC S p h) (hcl : ∀ d : Cr, D d.p d.h → D (nxt S d).p (nxt S d).h) {c : Cr} (hc : isCr S c) {n : Nat} (hn : Per S c n) :
    ∀ d : Cr, less S D c n d.p d.h → less S D c n (nxt S d).p (nxt S d).h := fun d hd => by
  refine ⟨hcl d hd.1, fun j hj e => ?_⟩
  have hdS : isCr S d := hDS _ _ hd.1
  replace e : it S j c = nxt S d := e
  cases j with
  | zero =>
    have e1 : it S n c = nxt S d := hn.back.trans e
    obtain ⟨m, rfl⟩ : ∃ m, n = m + 1 := ⟨n - 1, by have := hn.pos; omega⟩
    exact hd.2 m (by omega) (nxt_inj (it_isCr hc m) hdS e1)
  | succ j => exact hd.2 j (by omega) (nxt_inj (it_isCr hc j) hdS e)
theorem it_in {D : Pt → Int → Prop} (hcl : ∀ d : Cr, D d.p d.h → D (nxt S d).p (nxt S d).h) {c : Cr} (hc : D c.p c.h) : ∀ i, D (it S i c).p (it S i c).h
  | 0 => hc
  | i + 1 => hcl _ (it_in hcl hc i)
/-- What the loop over the corners keeps. -/
structure TrI (S : Int → Int → Prop) (cs : List Pt) (k : Nat) (m : Cracks) (out : List Poly) (D : Pt → Int → Prop) : Prop where
  has : Has m D
  sub : ∀ p h, D p h → isC S p h
  cl : ∀ d : Cr, D d.p d.h → D (nxt S d).p (nxt S d).h
  at' : ∀ p h, D p h → p ∈ cs.drop k
  sorted : out.Pairwise (fun a b => ltPt (hd a) (hd b))
  mem : ∀ P, P ∈ out ↔ ∃ c n, isCr S c ∧ Per S c n ∧ LeastAt S c ∧ P = ⟨corners S c n⟩ ∧ ¬ D c.p c.h
  below : ∀ P ∈ out, ∀ q ∈ cs.drop k, ltPt (hd P) q
  few : out.length ≤ k
theorem trace_step (hq : Sq S) {cs : List Pt} (hcs : cs.Pairwise (fun a b => lePt a b = true)) (hnd : cs.Nodup) {k : Nat} (hk : k < cs.length) (hlen : cs.length ≤ 1000000000) {m : Cracks} {out : List Poly} {D : Pt → Int → Prop} (h : TrI S cs k m out D) :
    Ret (boundary_Trace_j1 cs k m out) fun o => ∃ D', TrI S cs (k + 1) o.2 o.1 D' := by
  have hdrop : cs.drop k = cs[k] :: cs.drop (k + 1) := List.drop_eq_getElem_cons hk
  have hpw := hcs.sublist (List.drop_sublist k cs)
  have hnd2 := hnd.sublist (List.drop_sublist k cs)
  rw [hdrop, List.pairwise_cons] at hpw
  rw [hdrop, List.nodup_cons] at hnd2
  unfold boundary_Trace_j1
  refine Ret.getI rfl hk ?_
  rw [getT_rowM]
  generalize hp : cs[k] = p at hdrop hpw hnd2
  have hsub : ∀ q, q ∈ cs.drop (k + 1) → q ∈ cs.drop k := fun q hq => by rw [hdrop]; simp [hq]
  refine Ret.ifB (fun hlt => ?_) (fun hge => ?_)
  · rw [decide_eq_true_eq] at hlt
    obtain ⟨h0, hh0⟩ : ∃ h0, D p h0 := by
      cases hr : rowM p m with
      | nil => rw [hr] at hlt; simp at hlt
      | cons a l => exact ⟨a, (h.has.mem p a).1 (by rw [hr]; simp)⟩
    have hle : ∀ q j, D q j → lePt p q = true := fun q j hd => by
      have := h.at' q j hd
      rw [hdrop] at this
      rcases List.mem_cons.1 this with e | e
      · rw [e, lePt_iff]; omega
      · exact hpw.1 q e
    have h01 : ∀ j, D p j → j = 0 ∧ S p.x p.y ∨ j = 1 ∧ ¬ S p.x p.y := fun j hd => by
      have hn := h.cl ⟨p, j⟩ hd
      have h1 := hle _ _ hn
      rw [nxt_p, lePt_iff] at h1
      rcases h.sub p j hd with ⟨e, h2, _⟩ | ⟨e, _, h2⟩ | ⟨e, _⟩ | ⟨e, _⟩
      · exact .inl ⟨e, h2⟩
      · exact .inr ⟨e, h2⟩
      · subst e; simp [stp] at h1; omega
      · subst e; simp [stp] at h1; omega
    have honly : ∀ j, D p j → j = h0 := fun j hd => by
      rcases h01 j hd with ⟨e1, q1⟩ | ⟨e1, q1⟩ <;> rcases h01 h0 hh0 with ⟨e2, q2⟩ | ⟨e2, q2⟩
      · rw [e1, e2]
      · exact absurd q1 q2
      · exact absurd q2 q1
      · rw [e1, e2]
    have hcS : isCr S ⟨p, h0⟩ := h.sub _ _ hh0
    obtain ⟨n, hn⟩ := exists_per hq.fin hcS
    have hfew := Per.few hq hcS hn
    have hit := it_in (c := ⟨p, h0⟩) h.cl hh0
    have hleast : LeastAt S ⟨p, h0⟩ := fun i => hle _ _ (hit i)
    refine Ret.bind (walk_eq hq.near h.has h.sub h.cl (c := ⟨p, h0⟩) hh0 honly hn (by omega)) fun v hv => ?_
    obtain ⟨P, m'⟩ := v
    obtain ⟨hP, hm'⟩ := hv
    simp only at hP hm'
    have hof := h.few
    refine Ret.chk (by simp only [List.length_cons, List.length_nil]; omega) (Ret.mk ⟨less S D ⟨p, h0⟩ n, ?_⟩)
    simp only
    rw [hP]
    have hPe : ∀ c' n', isCr S c' → Per S c' n' → LeastAt S c' → D c'.p c'.h → ¬ less S D ⟨p, h0⟩ n c'.p c'.h → c' = ⟨p, h0⟩ ∧ n' = n := fun c' n' h1 h2 h3 h4 h5 => by
      have : ∃ j, it S j ⟨p, h0⟩ = c' := Classical.byContradiction fun hno => h5 ⟨h4, fun j _ e => hno ⟨j, e⟩⟩
      obtain ⟨j, hj⟩ := this
      obtain ⟨j', hj'⟩ := Same.symm hq.fin hcS ⟨j, hj⟩
      have q1 := hleast j
      have q2 := h3 j'
      rw [hj] at q1
      rw [hj'] at q2
      have e1 : c'.p = p := (lePt_antisymm _ _ q1 q2).symm
      rw [e1] at h4
      have e2 := honly _ h4
      have e3 : c' = ⟨p, h0⟩ := by cases c'; simp only at e1 e2; rw [e1, e2]
      subst e3
      exact ⟨rfl, h2.uniq hn⟩
    exact {
      has := hm'
      sub := fun q j hd => h.sub q j hd.1
      cl := less_closed h.sub h.cl hcS hn
      at' := fun q j hd => by
        have := h.at' q j hd.1
        rw [hdrop] at this
        rcases List.mem_cons.1 this with e | e
        · subst e
          exact absurd (by rw [honly j hd.1]; rfl) (hd.2 0 hn.pos)
        · exact e
      sorted := by
        rw [List.pairwise_append]
        refine ⟨h.sorted, by simp, fun a ha b hb => ?_⟩
        simp only [List.mem_cons, List.not_mem_nil, or_false] at hb
        subst hb
        rw [hd_corners]
        exact h.below a ha p (by rw [hdrop]; simp)
      mem := fun Q => by
        rw [List.mem_append, h.mem]
        constructor
        · rintro (⟨c', n', h1, h2, h3, h4, h5⟩ | hQ)
          · exact ⟨c', n', h1, h2, h3, h4, fun hl => h5 hl.1⟩
          · simp only [List.mem_cons, List.not_mem_nil, or_false] at hQ
            exact ⟨⟨p, h0⟩, n, hcS, hn, hleast, hQ, fun hl => hl.2 0 hn.pos rfl⟩
        · rintro ⟨c', n', h1, h2, h3, h4, h5⟩
          by_cases hD : D c'.p c'.h
          · obtain ⟨rfl, rfl⟩ := hPe c' n' h1 h2 h3 hD h5
            exact .inr (by simp [h4])
          · exact .inl ⟨c', n', h1, h2, h3, h4, hD⟩
      below := fun Q hQ q hq' => by
        rcases List.mem_append.1 hQ with hQ | hQ
        · exact h.below Q hQ q (hsub q hq')
        · simp only [List.mem_cons, List.not_mem_nil, or_false] at hQ
          subst hQ
          rw [hd_corners]
          exact lt_of_le_ne (hpw.1 q hq') (fun e => hnd2.1 (by rw [show p = q from e]; exact hq'))
      few := by simp; omega }
  · rw [decide_eq_false_iff_not] at hge
    have hno : ∀ j, ¬ D p j := fun j hd => by
      have := List.length_pos_of_mem ((h.has.mem p j).2 hd); omega
    refine Ret.mk ⟨D, ?_⟩
    exact { h with
      at' := fun q j hd => by
        have := h.at' q j hd
        rw [hdrop] at this
        rcases List.mem_cons.1 this with e | e
        · exact absurd (e ▸ hd) (hno j)
        · exact e
      below := fun Q hQ q hq' => h.below Q hQ q (hsub q hq')
      few := by have := h.few; simp only; omega }
theorem Trace_eq (r : Region) (hr : r.Ok) (hV : VReg r) : Ret (boundary_Trace r) fun ps => Traces (inG r) ps := by
  have hq := sq_inG hV
  have hH := cracksOf_holds hV
  have hHas : Has (cracksOf r) (isC (inG r)) := ⟨hH.keys, hH.mem, hH.nd, fun p h hc => isC_h hc⟩
  unfold boundary_Trace
  refine Ret.bindE (region_Valid_eq r hr) ?_
  rw [validB_iff.2 hV]
  refine Ret.ifF rfl ?_
  refine Ret.bindE (collect_eq r hr hV fun p => by have := hHas.short p; omega) ?_
  have hkl : ((cracksOf r).map (·.1)).length ≤ 67125249 := by
    have := nodup_sub_len hH.keys (m := grid) fun p hp => by
      obtain ⟨h, hc⟩ := hH.key p hp
      exact mem_grid (hq.pt (c := ⟨p, h⟩) hc)
    rwa [grid_len] at this
  rw [List.length_map] at hkl
  refine Ret.chk (by omega) ?_
  refine Ret.bindE rfl ?_
  have hsort : sort_pt ((cracksOf r).map (fun x => x.1)) = some (((cracksOf r).map (fun x => x.1)).mergeSort lePt) := by
    unfold sort_pt chk
    rw [if_pos]
    refine ⟨fun p hp => ?_, by rw [List.length_map]; omega⟩
    obtain ⟨h, hc⟩ := hH.key p hp
    have := hq.pt (c := ⟨p, h⟩) hc
    unfold InSq at this
    unfold PtIn
    simp only at this
    omega
  refine Ret.bindE hsort ?_
  have hpw : (((cracksOf r).map (fun x => x.1)).mergeSort lePt).Pairwise (fun a b => lePt a b = true) := List.pairwise_mergeSort (fun a b c => lePt_trans a b c) lePt_total _
  have hperm := List.mergeSort_perm ((cracksOf r).map (fun x => x.1)) lePt
  have hnd : (((cracksOf r).map (fun x => x.1)).mergeSort lePt).Nodup := (hperm.nodup_iff).2 hH.keys
  have hlen : (((cracksOf r).map (fun x => x.1)).mergeSort lePt).length ≤ 1000000000 := by rw [List.length_mergeSort, List.length_map]; omega
  have hall : ∀ p h, isC (inG r) p h → p ∈ ((cracksOf r).map (fun x => x.1)).mergeSort lePt := fun p h hc => by
    rw [List.mem_mergeSort]
    refine rowM_key (fun e => ?_)
    have := (hH.mem p h).2 hc
    rw [e] at this; cases this
  generalize ((cracksOf r).map (fun x => x.1)).mergeSort lePt = cs at hpw hnd hlen hall
  refine Ret.bind (Q' := fun ps => Traces (inG r) ps) ?_ (fun ps h => Ret.mk h)
  refine Ret.loop (I := fun s : List Poly × Int × Cracks => ∃ (k : Nat) (D : Pt → Int → Prop), s.2.1 = k ∧ k ≤ cs.length ∧ TrI (inG r) cs k s.2.2 s.1 D) (μ := fun s : List Poly × Int × Cracks => cs.length - s.2.1.toNat) (fun s hs => ?_)
    ⟨0, isC (inG r), rfl, Nat.zero_le _, ⟨hHas, fun _ _ h => h, fun d hd => nxt_isCr hd, fun p h hc => by rw [List.drop_zero]; exact hall p h hc, List.Pairwise.nil, fun P => ⟨(fun h => by cases h), (fun ⟨c, n, h1, _, _, _, h2⟩ => absurd h1 h2)⟩, (fun P h => by cases h), Nat.zero_le _⟩⟩
  obtain ⟨out, t, m⟩ := s
  obtain ⟨k, D, rfl, hk, hI⟩ := hs
  simp only at hI
  unfold boundary_Trace_l2
  refine Ret.ifB (fun hlt => ?_) (fun hge => ?_)
  · rw [decide_eq_true_eq] at hlt
    have hk' : k < cs.length := by omega
    refine Ret.bind (trace_step hq hpw hnd hk' hlen hI) fun o ho => ?_
    obtain ⟨out', m'⟩ := o
    obtain ⟨D', hD'⟩ := ho
    exact Ret.chk (inR (by omega) (by omega)) (Ret.mk ⟨⟨k + 1, D', by simp, by omega, hD'⟩, by simp only; omega⟩)
  · rw [decide_eq_false_iff_not] at hge
    have : k = cs.length := by omega
    subst this
    refine Ret.mk ⟨hI.sorted, fun P => ?_⟩
    rw [hI.mem]
    constructor
    · rintro ⟨c, n, h1, h2, h3, h4, _⟩; exact ⟨c, n, h1, h2, h3, h4⟩
    · rintro ⟨c, n, h1, h2, h3, h4⟩
      refine ⟨c, n, h1, h2, h3, h4, fun hD => ?_⟩
      have := hI.at' _ _ hD
      rw [List.drop_length] at this; cases this
end
end Go.AM
end
section
namespace Go.AM
open Go
noncomputable section
theorem inside_ret (l : List Run) (hl : l.length ≤ maxLen) (x : Int) : Ret (R18_inside l x) fun b => b = true ↔ inRuns l x := by
  unfold maxLen at hl
  unfold R18_inside
  refine Ret.bind (Q' := fun o => match o with | .inl _ => ¬ inRuns l x | .inr _ => inRuns l x) ?_ (fun o ho => ?_)
  · refine Ret.loop (I := fun i : Int => ∃ k : Nat, i = k ∧ k ≤ l.length ∧ ∀ j (hj : j < l.length), j < k → ¬ (l[j].frm ≤ x ∧ x < l[j].to)) (μ := fun i : Int => l.length - i.toNat) (fun i hi => ?_) ⟨0, rfl, Nat.zero_le _, fun j _ hj => absurd hj (Nat.not_lt_zero _)⟩
    obtain ⟨k, rfl, hk, hI⟩ := hi
    unfold R18_inside_l2
    refine Ret.ifB (fun hlt => ?_) (fun hge => ?_)
    · rw [decide_eq_true_eq] at hlt
      have hk' : k < l.length := by omega
      have hj : R18_inside_j1 l k x = some (decide (l[k].frm ≤ x ∧ x < l[k].to)) := by
        refine Ret.eq ?_
        unfold R18_inside_j1
        refine Ret.getI rfl hk' (Ret.ifB (fun h => Ret.mk ?_) (fun h => Ret.mk ?_))
        · rw [decide_eq_true_eq] at h; simp [h]
        · rw [decide_eq_false_iff_not] at h; simp [h]
      refine Ret.bindE hj (Ret.ifB (fun h => ?_) (fun h => ?_))
      · rw [decide_eq_true_eq] at h
        exact Ret.mk ⟨l[k], List.getElem_mem hk', h⟩
      · rw [decide_eq_false_iff_not] at h
        refine Ret.chk (inR (by omega) (by omega)) (Ret.mk ⟨⟨k + 1, by omega, by omega, fun j hj hjk => ?_⟩, by omega⟩)
        rcases Nat.lt_or_ge j k with h1 | h1
        · exact hI j hj h1
        · have : j = k := by omega
          subst this; exact h
    · rw [decide_eq_false_iff_not] at hge
      refine Ret.mk ?_
      rintro ⟨y, hy, h1⟩
      obtain ⟨j, hj, rfl⟩ := List.getElem_of_mem hy
      exact hI j hj (by omega) h1
  · cases o with
    | inl _ => exact Ret.mk ⟨(fun h => by cases h), fun h => absurd h ho⟩
    | inr _ => exact Ret.mk ⟨fun _ => ho, fun _ => rfl⟩
theorem Row_ret (r : Region) (hr : r.Ok) (hV : VReg r) (y : Int) : Ret (R18_Row r y) fun l => l.length ≤ maxLen ∧ ∀ x, inRuns l x ↔ inG r x y := by
  have hl := hr.1
  unfold maxLen at hl
  unfold R18_Row
  refine Ret.bind (Q' := fun o => match o with | .inl _ => ∀ w ∈ r.rows, w.y ≠ y | .inr l => ∃ k, ∃ hk : k < r.rows.length, (r.rows[k]).y = y ∧ l = (r.rows[k]).runs) ?_ (fun o ho => ?_)
  · refine Ret.loop (I := fun i : Int => ∃ k : Nat, i = k ∧ k ≤ r.rows.length ∧ ∀ j (hj : j < r.rows.length), j < k → (r.rows[j]).y ≠ y) (μ := fun i : Int => r.rows.length - i.toNat) (fun i hi => ?_) ⟨0, rfl, Nat.zero_le _, fun j _ hj => absurd hj (Nat.not_lt_zero _)⟩
    obtain ⟨k, rfl, hk, hI⟩ := hi
    unfold R18_Row_l1
    refine Ret.ifB (fun hlt => ?_) (fun hge => ?_)
    · rw [decide_eq_true_eq] at hlt
      have hk' : k < r.rows.length := by omega
      refine Ret.getI rfl hk' (Ret.ifB (fun h => ?_) (fun h => ?_))
      · rw [beq_iff_eq] at h
        exact Ret.mk ⟨k, hk', h, rfl⟩
      · have h' : (r.rows[k]).y ≠ y := fun e => by rw [e] at h; simp at h
        refine Ret.chk (inR (by omega) (by omega)) (Ret.mk ⟨⟨k + 1, by omega, by omega, fun j hj hjk => ?_⟩, by omega⟩)
        rcases Nat.lt_or_ge j k with h1 | h1
        · exact hI j hj h1
        · have : j = k := by omega
          subst this; exact h'
    · rw [decide_eq_false_iff_not] at hge
      refine Ret.mk (fun w hw => ?_)
      obtain ⟨j, hj, rfl⟩ := List.getElem_of_mem hw
      exact hI j hj (by omega)
  · cases o with
    | inl _ =>
      refine Ret.mk ⟨by simp, fun x => ⟨(fun ⟨_, h, _⟩ => by cases h), fun ⟨w, hw, hy, _⟩ => absurd hy (ho w hw)⟩⟩
    | inr l =>
      obtain ⟨k, hk, hy, rfl⟩ := ho
      refine Ret.mk ⟨(hr.2 _ (List.getElem_mem hk)).2.1, fun x => ?_⟩
      rw [← hy, inG_row hV hk]
theorem Contains_ret (r : Region) (hr : r.Ok) (hV : VReg r) (c : Cell) : Ret (R18_Contains r c) fun b => b = true ↔ inG r c.x c.y := by
  unfold R18_Contains
  refine Ret.bind (Q' := fun b => b = true ↔ inG r c.x c.y) ?_ (fun b hb => Ret.mk hb)
  unfold R18_Contains_j1
  refine Ret.bindE (R18_Valid_eq r hr) ?_
  rw [validB_iff.2 hV]
  refine Ret.ifT rfl (Ret.bind (Row_ret r hr hV c.y) fun l hl => ?_)
  exact Ret.bind (inside_ret l hl.1 c.x) fun b hb => Ret.mk (hb.trans (hl.2 c.x))
/-! ### Cells -/
def rowCells (w : Row) : List Cell := (ints w.runs).map fun k => ⟨k, w.y⟩
def cellsR (r : Region) : List Cell := r.rows.flatMap rowCells
theorem mem_cellsR {r : Region} {c : Cell} : c ∈ cellsR r ↔ inG r c.x c.y := by
  unfold cellsR rowCells inG
  rw [List.mem_flatMap]
  constructor
  · rintro ⟨w, hw, h⟩
    rw [List.mem_map] at h
    obtain ⟨k, hk, rfl⟩ := h
    exact ⟨w, hw, rfl, mem_ints.1 hk⟩
  · rintro ⟨w, hw, hy, hx⟩
    exact ⟨w, hw, List.mem_map.2 ⟨c.x, mem_ints.2 hx, by cases c; simp only at hy; rw [hy]⟩⟩
def ltCell (a b : Cell) : Prop := a.y < b.y ∨ a.y = b.y ∧ a.x < b.x
theorem cellsR_lt {r : Region} (hV : VReg r) : (cellsR r).Pairwise ltCell := by
  unfold cellsR
  have h1 := hV.1
  have h2 := hV.2
  clear hV
  generalize r.rows = L at h1 h2
  induction L with
  | nil => exact List.Pairwise.nil
  | cons w l ih =>
    rw [List.pairwise_cons] at h2
    rw [List.flatMap_cons, List.pairwise_append]
    refine ⟨?_, ih (fun v hv => h1 v (by simp [hv])) h2.2, fun a ha b hb => ?_⟩
    · unfold rowCells
      rw [List.pairwise_map]
      exact (ints_lt (h1 w (by simp)).2.2.2.2).imp fun h => .inr ⟨rfl, h⟩
    · rw [List.mem_flatMap] at hb
      obtain ⟨v, hv, hb⟩ := hb
      unfold rowCells at ha hb
      rw [List.mem_map] at ha hb
      obtain ⟨_, _, rfl⟩ := ha
      obtain ⟨_, _, rfl⟩ := hb
      exact .inl (h2.1 v hv)
theorem cellsR_nodup {r : Region} (hV : VReg r) : (cellsR r).Nodup := (cellsR_lt hV).imp fun h e => by subst e; unfold ltCell at h; omega
def gridCells : List Cell := grid.map fun p => ⟨p.x, p.y⟩
theorem cellsR_few {r : Region} (hV : VReg r) : (cellsR r).length ≤ 67125249 := by
  have hq := sq_inG hV
  have := nodup_sub_len (cellsR_nodup hV) (m := gridCells) fun c hc => by
    have := hq _ _ (mem_cellsR.1 hc)
    exact List.mem_map.2 ⟨⟨c.x, c.y⟩, mem_grid (by unfold InSq; simp only; omega), rfl⟩
  unfold gridCells at this
  rwa [List.length_map, grid_len] at this
theorem Cells_eq (r : Region) (hr : r.Ok) (hV : VReg r) : R18_Cells r = some (cellsR r) := by
  have hfew := cellsR_few hV
  have hrf := hV.few
  refine Ret.eq ?_
  unfold R18_Cells
  refine Ret.bindE (R18_Valid_eq r hr) ?_
  rw [validB_iff.2 hV]
  refine Ret.ifF rfl (Ret.bind (Q' := (· = cellsR r)) ?_ fun l h => Ret.mk h)
  refine Ret.loop (I := fun s : List Cell × Int => ∃ k : Nat, s.2 = k ∧ k ≤ r.rows.length ∧ s.1 ++ (r.rows.drop k).flatMap rowCells = cellsR r) (μ := fun s : List Cell × Int => r.rows.length - s.2.toNat) (fun s hs => ?_) ⟨0, rfl, Nat.zero_le _, rfl⟩
  obtain ⟨acc, i⟩ := s
  obtain ⟨k, rfl, hk, hI⟩ := hs
  simp only at hI
  unfold R18_Cells_l3
  refine Ret.ifB (fun hlt => ?_) (fun hge => ?_)
  · rw [decide_eq_true_eq] at hlt
    have hk' : k < r.rows.length := by omega
    have hw := hV.1 _ (List.getElem_mem hk')
    have hwf := runsV_few (by decide) hw.big.1
    rw [List.drop_eq_getElem_cons hk', List.flatMap_cons, ← List.append_assoc] at hI
    refine Ret.bind (Q' := fun a => a = acc ++ rowCells r.rows[k]) ?_ (fun a ha => ?_)
    · refine Ret.loop (I := fun s : List Cell × Int => ∃ j : Nat, s.2 = j ∧ j ≤ (r.rows[k]).runs.length ∧ s.1 ++ (ints ((r.rows[k]).runs.drop j)).map (fun t => (⟨t, (r.rows[k]).y⟩ : Cell)) = acc ++ rowCells r.rows[k]) (μ := fun s : List Cell × Int => (r.rows[k]).runs.length - s.2.toNat) (fun s hs => ?_) ⟨0, rfl, Nat.zero_le _, rfl⟩
      obtain ⟨a, i⟩ := s
      obtain ⟨j, rfl, hj, hJ⟩ := hs
      simp only at hJ
      unfold R18_Cells_l2
      refine Ret.getI rfl hk' (Ret.ifB (fun hlt => ?_) (fun hge => ?_))
      · rw [decide_eq_true_eq] at hlt
        have hj' : j < (r.rows[k]).runs.length := by omega
        have hx := hw.2.2.2.1 _ (List.getElem_mem hj')
        unfold RunIn at hx
        have e : ints ((r.rows[k]).runs.drop j) = irange ((r.rows[k]).runs[j]).frm ((r.rows[k]).runs[j]).to ++ ints ((r.rows[k]).runs.drop (j + 1)) := by
          rw [List.drop_eq_getElem_cons hj']; exact List.flatMap_cons
        rw [e, List.map_append, ← List.append_assoc] at hJ
        refine Ret.getI rfl hj' (Ret.bind (Q' := fun b => b = a ++ (irange ((r.rows[k]).runs[j]).frm ((r.rows[k]).runs[j]).to).map (fun t => (⟨t, (r.rows[k]).y⟩ : Cell))) ?_ (fun b hb => ?_))
        · refine Ret.loop (I := fun s : List Cell × Int => ((r.rows[k]).runs[j]).frm ≤ s.2 ∧ s.2 ≤ ((r.rows[k]).runs[j]).to ∧ s.1 ++ (irange s.2 ((r.rows[k]).runs[j]).to).map (fun t => (⟨t, (r.rows[k]).y⟩ : Cell)) = a ++ (irange ((r.rows[k]).runs[j]).frm ((r.rows[k]).runs[j]).to).map (fun t => (⟨t, (r.rows[k]).y⟩ : Cell))) (μ := fun s : List Cell × Int => (((r.rows[k]).runs[j]).to - s.2).toNat) (fun s hs => ?_) ⟨Int.le_refl _, by simp only; omega, rfl⟩
          obtain ⟨b, t⟩ := s
          obtain ⟨q1, q2, hT⟩ := hs
          simp only at q1 q2 hT
          unfold R18_Cells_l1
          refine Ret.getI rfl hk' (Ret.getI rfl hj' (Ret.ifB (fun hlt => ?_) (fun hge => ?_)))
          · rw [decide_eq_true_eq] at hlt
            rw [irange_cons hlt, List.map_cons] at hT
            have hlen : b.length + 1 ≤ (cellsR r).length := by
              have h1 := congrArg List.length hT
              have h2 := congrArg List.length hJ
              have h3 := congrArg List.length hI
              simp only [List.length_append, List.length_cons] at h1 h2 h3
              omega
            refine Ret.chk (by simp only [List.length_cons, List.length_nil]; omega) (Ret.chk (inR (by omega) (by omega)) (Ret.mk ⟨⟨by simp only; omega, by simp only; omega, ?_⟩, by simp only; omega⟩))
            simp only [List.append_assoc, List.cons_append, List.nil_append] at hT ⊢
            exact hT
          · rw [decide_eq_false_iff_not] at hge
            rw [irange_nil (by omega)] at hT
            exact Ret.mk (by simpa using hT)
        · subst hb
          exact Ret.chk (inR (by omega) (by omega)) (Ret.mk ⟨⟨j + 1, by simp, by omega, hJ⟩, by simp only; omega⟩)
      · rw [decide_eq_false_iff_not] at hge
        have : j = (r.rows[k]).runs.length := by omega
        subst this
        rw [List.drop_length] at hJ
        exact Ret.mk (by simpa [ints] using hJ)
    · subst ha
      exact Ret.chk (inR (by omega) (by omega)) (Ret.mk ⟨⟨k + 1, by simp, by omega, hI⟩, by simp only; omega⟩)
  · rw [decide_eq_false_iff_not] at hge
    have : k = r.rows.length := by omega
    subst this
    rw [List.drop_length] at hI
    exact Ret.mk (by simpa using hI)
/-! ### The reference's cracks -/
def toCrack (c : Cr) : Crack := ⟨c.p, stp c.p c.h⟩
def cand (a : Cell) : List Cr := [⟨⟨a.x, a.y⟩, 0⟩, ⟨⟨a.x + 1, a.y⟩, 1⟩, ⟨⟨a.x + 1, a.y + 1⟩, 2⟩, ⟨⟨a.x, a.y + 1⟩, 3⟩]
open Classical in
def cellCr (S : Int → Int → Prop) (a : Cell) : List Cr := (cand a).filter fun c => decide (isCr S c)
def crsOf (r : Region) : List Cr := (cellsR r).flatMap (cellCr (inG r))
/-- The cell on a crack's left. -/
def lcell (c : Cr) : Cell := if c.h = 0 then ⟨c.p.x, c.p.y⟩ else if c.h = 1 then ⟨c.p.x - 1, c.p.y⟩ else if c.h = 2 then ⟨c.p.x - 1, c.p.y - 1⟩ else ⟨c.p.x, c.p.y - 1⟩
theorem lcell_cand {a : Cell} {c : Cr} (h : c ∈ cand a) : lcell c = a := by
  unfold cand at h
  simp only [List.mem_cons, List.not_mem_nil, or_false] at h
  obtain ⟨x, y⟩ := a
  rcases h with rfl | rfl | rfl | rfl <;> simp [lcell] <;> omega
theorem cand_lcell {c : Cr} (h : c.h = 0 ∨ c.h = 1 ∨ c.h = 2 ∨ c.h = 3) : c ∈ cand (lcell c) := by
  obtain ⟨⟨x, y⟩, k⟩ := c
  simp only at h
  rcases h with rfl | rfl | rfl | rfl <;> simp [lcell, cand] <;> omega
theorem lcell_in {S : Int → Int → Prop} {c : Cr} (h : isCr S c) : S (lcell c).x (lcell c).y := by
  obtain ⟨⟨x, y⟩, k⟩ := c
  rcases h with ⟨e, h1, _⟩ | ⟨e, h1, _⟩ | ⟨e, h1, _⟩ | ⟨e, h1, _⟩ <;> (simp only at e h1; subst e; simpa [lcell] using h1)
theorem mem_crsOf {r : Region} {c : Cr} : c ∈ crsOf r ↔ isCr (inG r) c := by
  unfold crsOf cellCr
  rw [List.mem_flatMap]
  constructor
  · rintro ⟨a, _, h⟩
    rw [List.mem_filter] at h
    simpa using h.2
  · intro h
    exact ⟨lcell c, mem_cellsR.2 (lcell_in h), List.mem_filter.2 ⟨cand_lcell (isC_h h), by simpa using h⟩⟩
theorem nodup_crsOf {r : Region} (hV : VReg r) : (crsOf r).Nodup := by
  unfold crsOf
  have hn := cellsR_nodup hV
  generalize cellsR r = l at hn
  induction l with
  | nil => exact List.nodup_nil
  | cons a l ih =>
    rw [List.nodup_cons] at hn
    rw [List.flatMap_cons, List.nodup_append]
    refine ⟨?_, ih hn.2, fun x hx y hy e => ?_⟩
    · unfold cellCr
      refine List.Pairwise.filter _ ?_
      unfold cand
      simp
    · subst e
      unfold cellCr at hx hy
      rw [List.mem_flatMap] at hy
      obtain ⟨b, hb, hy⟩ := hy
      rw [List.mem_filter] at hx hy
      have e1 := lcell_cand hx.1
      have e2 := lcell_cand hy.1
      exact hn.1 (by rw [← e1, e2]; exact hb)
theorem crsOf_few {r : Region} (hV : VReg r) : (crsOf r).length ≤ 268500996 := by
  have hq := sq_inG hV
  have := nodup_sub_len (nodup_crsOf hV) (m := gridC) fun c hc => mem_gridC (hq.pt (mem_crsOf.1 hc)) (isC_h (mem_crsOf.1 hc))
  rwa [gridC_len] at this
theorem bool_of {b : Bool} {p : Prop} [Decidable p] (h : b = true ↔ p) : b = decide p := by rw [Bool.eq_iff_iff, decide_eq_true_eq]; exact h
open Classical in
theorem rcracks_eq (r : Region) (hr : r.Ok) (hV : VReg r) : R22_cracks r = some ((crsOf r).map toCrack) := by
  have hq := sq_inG hV
  have hfew := cellsR_few hV
  have hcf := crsOf_few hV
  refine Ret.eq ?_
  unfold R22_cracks
  refine Ret.bindE (Cells_eq r hr hV) (Ret.bind (Q' := (· = (crsOf r).map toCrack)) ?_ fun l h => Ret.mk h)
  refine Ret.loop (I := fun s : List Crack × Int => ∃ k : Nat, s.2 = k ∧ k ≤ (cellsR r).length ∧ s.1 ++ (((cellsR r).drop k).flatMap (cellCr (inG r))).map toCrack = (crsOf r).map toCrack) (μ := fun s : List Crack × Int => (cellsR r).length - s.2.toNat) (fun s hs => ?_) ⟨0, rfl, Nat.zero_le _, rfl⟩
  obtain ⟨acc, i⟩ := s
  obtain ⟨k, rfl, hk, hI⟩ := hs
  simp only at hI
  unfold R22_cracks_l5
  refine Ret.ifB (fun hlt => ?_) (fun hge => ?_)
  · rw [decide_eq_true_eq] at hlt
    have hk' : k < (cellsR r).length := by omega
    have ha := mem_cellsR.1 (List.getElem_mem hk')
    have hsq := hq _ _ ha
    rw [List.drop_eq_getElem_cons hk', List.flatMap_cons, List.map_append, ← List.append_assoc] at hI
    have hlen : acc.length + 4 ≤ 1099511627776 := by
      have := congrArg List.length hI
      simp only [List.length_append, List.length_map] at this
      omega
    refine Ret.bind (Q' := fun l => l = acc ++ (cellCr (inG r) (cellsR r)[k]).map toCrack) ?_ (fun l hl => ?_)
    · unfold R22_cracks_j4
      refine Ret.getI rfl hk' ?_
      generalize (cellsR r)[k] = a at ha hsq
      have hcond : ∀ (c : Cr) (x y : Int), c.h = 0 ∧ c.p = ⟨a.x, a.y⟩ ∧ x = a.x ∧ y = a.y - 1 ∨ c.h = 1 ∧ c.p = ⟨a.x + 1, a.y⟩ ∧ x = a.x + 1 ∧ y = a.y ∨ c.h = 2 ∧ c.p = ⟨a.x + 1, a.y + 1⟩ ∧ x = a.x ∧ y = a.y + 1 ∨ c.h = 3 ∧ c.p = ⟨a.x, a.y + 1⟩ ∧ x = a.x - 1 ∧ y = a.y → (isCr (inG r) c ↔ ¬ inG r x y) := fun c x y h => by
        obtain ⟨p, j⟩ := c
        simp only at h
        rcases h with ⟨rfl, rfl, rfl, rfl⟩ | ⟨rfl, rfl, rfl, rfl⟩ | ⟨rfl, rfl, rfl, rfl⟩ | ⟨rfl, rfl, rfl, rfl⟩
        · simp only [isCr, isC0]; exact ⟨fun h => h.2, fun h => ⟨ha, h⟩⟩
        · simp only [isCr, isC1, show a.x + 1 - 1 = a.x by omega]; exact ⟨fun h => h.2, fun h => ⟨ha, h⟩⟩
        · simp only [isCr, isC2, show a.x + 1 - 1 = a.x by omega, show a.y + 1 - 1 = a.y by omega]; exact ⟨fun h => h.2, fun h => ⟨ha, h⟩⟩
        · simp only [isCr, isC3, show a.y + 1 - 1 = a.y by omega]; exact ⟨fun h => h.2, fun h => ⟨ha, h⟩⟩
      have c0 := hcond ⟨⟨a.x, a.y⟩, 0⟩ a.x (a.y - 1) (.inl ⟨rfl, rfl, rfl, rfl⟩)
      have c1 := hcond ⟨⟨a.x + 1, a.y⟩, 1⟩ (a.x + 1) a.y (.inr (.inl ⟨rfl, rfl, rfl, rfl⟩))
      have c2 := hcond ⟨⟨a.x + 1, a.y + 1⟩, 2⟩ a.x (a.y + 1) (.inr (.inr (.inl ⟨rfl, rfl, rfl, rfl⟩)))
      have c3 := hcond ⟨⟨a.x, a.y + 1⟩, 3⟩ (a.x - 1) a.y (.inr (.inr (.inr ⟨rfl, rfl, rfl, rfl⟩)))
      have one : ∀ (c : Cr) (x y : Int) (acc : List Crack) (e : Crack), (isCr (inG r) c ↔ ¬ inG r x y) → toCrack c = e → acc.length + 1 ≤ 1099511627776 →
          Ret ((R18_Contains r ⟨x, y⟩).bind fun b => ifB (!b) (chk (acc.length + [e].length ≤ 1099511627776) (some (acc ++ [e]))) (some acc)) fun l => l = acc ++ ([c].filter fun c => decide (isCr (inG r) c)).map toCrack := fun c x y acc e hc he hl => by
        refine Ret.bind (Contains_ret r hr hV ⟨x, y⟩) fun b hb => ?_
        simp only at hb
        refine Ret.ifB (fun h => Ret.chk (by simpa using hl) (Ret.mk ?_)) (fun h => Ret.mk ?_)
        · rw [Bool.not_eq_true'] at h
          have : isCr (inG r) c := hc.2 fun q => by rw [hb.2 q] at h; cases h
          simp [this, he]
        · rw [Bool.not_eq_false'] at h
          have : ¬ isCr (inG r) c := fun q => hc.1 q (hb.1 h)
          simp [this]
      refine Ret.chk (inR (by omega) (by omega)) (Ret.chk (inR (by omega) (by omega)) ?_)
      refine Ret.bind (Q' := fun l => l = acc ++ ([(⟨⟨a.x, a.y⟩, 0⟩ : Cr)].filter fun c => decide (isCr (inG r) c)).map toCrack) (Ret.chk (inR (by omega) (by omega)) (one _ _ _ acc _ c0 rfl (by omega))) fun l1 h1 => ?_
      have hl1 : l1.length ≤ acc.length + 1 := by subst h1; simp only [List.length_append, List.length_map]; have := List.length_filter_le (fun c => decide (isCr (inG r) c)) [(⟨⟨a.x, a.y⟩, 0⟩ : Cr)]; simp only [List.length_cons, List.length_nil] at this; omega
      refine Ret.bind (Q' := fun l => l = l1 ++ ([(⟨⟨a.x + 1, a.y⟩, 1⟩ : Cr)].filter fun c => decide (isCr (inG r) c)).map toCrack) (Ret.chk (inR (by omega) (by omega)) (one _ _ _ l1 _ c1 rfl (by omega))) fun l2 h2 => ?_
      have hl2 : l2.length ≤ l1.length + 1 := by subst h2; simp only [List.length_append, List.length_map]; have := List.length_filter_le (fun c => decide (isCr (inG r) c)) [(⟨⟨a.x + 1, a.y⟩, 1⟩ : Cr)]; simp only [List.length_cons, List.length_nil] at this; omega
      refine Ret.bind (Q' := fun l => l = l2 ++ ([(⟨⟨a.x + 1, a.y + 1⟩, 2⟩ : Cr)].filter fun c => decide (isCr (inG r) c)).map toCrack) (Ret.chk (inR (by omega) (by omega)) (one _ _ _ l2 _ c2 (by simp [toCrack, stp]) (by omega))) fun l3 h3 => ?_
      have hl3 : l3.length ≤ l2.length + 1 := by subst h3; simp only [List.length_append, List.length_map]; have := List.length_filter_le (fun c => decide (isCr (inG r) c)) [(⟨⟨a.x + 1, a.y + 1⟩, 2⟩ : Cr)]; simp only [List.length_cons, List.length_nil] at this; omega
      refine (Ret.chk (inR (by omega) (by omega)) (one _ _ _ l3 _ c3 (by simp [toCrack, stp]) (by omega))).mono fun l4 h4 => ?_
      subst h4; subst h3; subst h2; subst h1
      have e : cellCr (inG r) a = ([(⟨⟨a.x, a.y⟩, 0⟩ : Cr)].filter fun c => decide (isCr (inG r) c)) ++ (([(⟨⟨a.x + 1, a.y⟩, 1⟩ : Cr)].filter fun c => decide (isCr (inG r) c)) ++ (([(⟨⟨a.x + 1, a.y + 1⟩, 2⟩ : Cr)].filter fun c => decide (isCr (inG r) c)) ++ ([(⟨⟨a.x, a.y + 1⟩, 3⟩ : Cr)].filter fun c => decide (isCr (inG r) c)))) := by
        unfold cellCr cand
        rw [← List.filter_append, ← List.filter_append, ← List.filter_append]; rfl
      rw [e]
      simp only [List.map_append, List.append_assoc]
    · subst hl
      exact Ret.chk (inR (by omega) (by omega)) (Ret.mk ⟨⟨k + 1, by simp, by omega, hI⟩, by simp only; omega⟩)
  · rw [decide_eq_false_iff_not] at hge
    have : k = (cellsR r).length := by omega
    subst this
    rw [List.drop_length] at hI
    exact Ret.mk (by simpa using hI)
end
end Go.AM
end
section
namespace Go.AM
open Go
noncomputable section
variable {S : Int → Int → Prop}
theorem flatMap_congr' {α β : Type} {f g : α → List β} : ∀ {l : List α}, (∀ a ∈ l, f a = g a) → l.flatMap f = l.flatMap g
  | [], _ => rfl
  | a :: l, h => by rw [List.flatMap_cons, List.flatMap_cons, h a (by simp), flatMap_congr' fun b hb => h b (by simp [hb])]
/-! ### after -/
theorem stp_near {c : Cr} (h : InSq c.p) : -4097 ≤ (stp c.p c.h).x ∧ (stp c.p c.h).x ≤ 4097 ∧ -4097 ≤ (stp c.p c.h).y ∧ (stp c.p c.h).y ≤ 4097 := by
  unfold InSq at h
  unfold stp
  split
  · simp only; omega
  · split
    · simp only; omega
    · split <;> (simp only; omega)
theorem left_test {d x : Cr} (hd : isCr S d) (hx : isCr S x) : R22_left (toCrack d) (toCrack x) = some (decide (x.h = lf d.h)) := by
  obtain ⟨⟨px, py⟩, k⟩ := d
  obtain ⟨⟨qx, qy⟩, j⟩ := x
  have h1 := isC_h hd
  have h2 := isC_h hx
  simp only at h1 h2
  refine Ret.eq ?_
  unfold R22_left toCrack
  have e1 : ∀ a : Int, a + 1 - a = 1 := fun a => by omega
  have e2 : ∀ a : Int, a - 1 - a = -1 := fun a => by omega
  have e3 : ∀ a : Int, a - a = 0 := fun a => by omega
  rcases h1 with rfl | rfl | rfl | rfl <;> rcases h2 with rfl | rfl | rfl | rfl <;>
    (simp only [stp]
     refine Ret.chk ?_ (Ret.chk ?_ (Ret.chk ?_ (Ret.chk ?_ (Ret.chk ?_ (Ret.chk ?_ (Ret.chk ?_ (Ret.mk ?_)))))))
     all_goals simp [e1, e2, e3, lf]
     all_goals (try decide))
theorem only_nxt {d : Cr} (hd : isCr S d) {h : Int} (hh : isC S (stp d.p d.h) h) (hl : ¬ isC S (stp d.p d.h) (lf d.h)) : (⟨stp d.p d.h, h⟩ : Cr) = nxt S d := by
  obtain ⟨⟨x, y⟩, k⟩ := d
  have hd' : isC S ⟨x, y⟩ k := hd
  have hk := isC_h hd'
  have hj := isC_h hh
  rcases hk with rfl | rfl | rfl | rfl
  · rw [isC0] at hd'
    simp only at hd'
    obtain ⟨h1, h2⟩ := hd'
    have e1 : x + 1 - 1 = x := by omega
    by_cases hAL : S (x + 1) y <;> by_cases hAR : S (x + 1) (y - 1) <;> rcases hj with rfl | rfl | rfl | rfl <;>
      simp_all [nxt, stp, lf, rt, isC0, isC1, isC2, isC3]
  · rw [isC1] at hd'
    simp only at hd'
    obtain ⟨h1, h2⟩ := hd'
    have e1 : y + 1 - 1 = y := by omega
    by_cases hAL : S (x - 1) (y + 1) <;> by_cases hAR : S x (y + 1) <;> rcases hj with rfl | rfl | rfl | rfl <;>
      simp_all [nxt, stp, lf, rt, isC0, isC1, isC2, isC3]
  · rw [isC2] at hd'
    simp only at hd'
    obtain ⟨h1, h2⟩ := hd'
    by_cases hAL : S (x - 1 - 1) (y - 1) <;> by_cases hAR : S (x - 1 - 1) y <;> rcases hj with rfl | rfl | rfl | rfl <;>
      simp_all [nxt, stp, lf, rt, isC0, isC1, isC2, isC3]
  · rw [isC3] at hd'
    simp only at hd'
    obtain ⟨h1, h2⟩ := hd'
    by_cases hAL : S x (y - 1 - 1) <;> by_cases hAR : S (x - 1) (y - 1 - 1) <;> rcases hj with rfl | rfl | rfl | rfl <;>
      simp_all [nxt, stp, lf, rt, isC0, isC1, isC2, isC3]
/-- All cracks of the set, each once. -/
structure All (S : Int → Int → Prop) (crs : List Cr) : Prop where
  nd : crs.Nodup
  mem : ∀ c, c ∈ crs ↔ isCr S c
  few : crs.length ≤ 268500996
theorem after_eq {crs : List Cr} (hA : All S crs) {i : Nat} {d : Cr} (hi : crs[i]? = some d) : Ret (R22_after (crs.map toCrack) i) fun n => ∃ j : Nat, n = j ∧ crs[j]? = some (nxt S d) := by
  have hfew := hA.few
  have hd : isCr S d := (hA.mem d).1 (List.mem_of_getElem? hi)
  have hil := (List.getElem?_eq_some_iff.1 hi).1
  have hid : crs[i] = d := by rw [List.getElem?_eq_getElem hil] at hi; exact Option.some.inj hi
  unfold R22_after
  refine Ret.bind (Q' := fun n : Int => ∃ j : Nat, n = j ∧ crs[j]? = some (nxt S d)) ?_ fun n h => Ret.mk h
  refine Ret.loop (I := fun s : Int × Int => ∃ k : Nat, s.2 = k ∧ k ≤ crs.length ∧ ((s.1 = -1 ∧ ∀ m (hm : m < crs.length), m < k → (crs[m]).p ≠ stp d.p d.h) ∨
      ∃ j : Nat, s.1 = j ∧ ∃ x, crs[j]? = some x ∧ x.p = stp d.p d.h ∧ (x.h = lf d.h ∨ ∀ m (hm : m < crs.length), m < k → crs[m] ≠ ⟨stp d.p d.h, lf d.h⟩))) (μ := fun s : Int × Int => crs.length - s.2.toNat) (fun s hs => ?_) ⟨0, rfl, Nat.zero_le _, .inl ⟨rfl, fun m _ hm => absurd hm (Nat.not_lt_zero _)⟩⟩
  obtain ⟨next, t⟩ := s
  obtain ⟨k, rfl, hk, hI⟩ := hs
  simp only at hI
  unfold R22_after_l3
  have hll : (crs.map toCrack).length = crs.length := List.length_map _
  rw [hll]
  refine Ret.ifB (fun hlt => ?_) (fun hge => ?_)
  · rw [decide_eq_true_eq] at hlt
    have hk' : k < crs.length := by omega
    have hx : isCr S crs[k] := (hA.mem _).1 (List.getElem_mem hk')
    have hj1 : R22_after_j1 (crs.map toCrack) k i next = some (decide ((crs[k]).p = stp d.p d.h) && (decide (next < 0) || decide ((crs[k]).h = lf d.h))) := by
      refine Ret.eq ?_
      unfold R22_after_j1
      refine Ret.getI (k := k) rfl (by rw [hll]; exact hk') (Ret.getI (k := i) rfl (by rw [hll]; exact hil) ?_)
      simp only [List.getElem_map, hid]
      have hpt : (((toCrack crs[k]).frm.x == (toCrack d).to.x) && (((toCrack crs[k]).frm.y == (toCrack d).to.y) && true)) = decide ((crs[k]).p = stp d.p d.h) := by
        rw [Bool.eq_iff_iff, decide_eq_true_eq]
        simp only [toCrack, Bool.and_eq_true, beq_iff_eq, and_true]
        constructor
        · rintro ⟨h1, h2⟩
          cases hp : (crs[k]).p with
          | mk a b =>
            cases hs : stp d.p d.h with
            | mk a' b' => rw [hp, hs] at h1 h2; simp only at h1 h2; rw [h1, h2]
        · intro h; rw [h]; exact ⟨rfl, rfl⟩
      rw [hpt]
      refine Ret.ifB (fun h => ?_) (fun h => ?_)
      · rw [h, Bool.true_and]
        refine Ret.ifB (fun h2 => ?_) (fun h2 => ?_)
        · rw [h2]; exact Ret.mk rfl
        · rw [h2, Bool.false_or]
          exact Ret.bindE (left_test hd hx) (Ret.mk rfl)
      · rw [h]; exact Ret.mk rfl
    refine Ret.bind (Q' := fun n : Int => (n = k ∧ (crs[k]).p = stp d.p d.h ∧ (next < 0 ∨ (crs[k]).h = lf d.h)) ∨ (n = next ∧ ¬ ((crs[k]).p = stp d.p d.h ∧ (next < 0 ∨ (crs[k]).h = lf d.h)))) ?_ (fun n hn => ?_)
    · unfold R22_after_j2
      refine Ret.bindE hj1 (Ret.ifB (fun h => Ret.mk (.inl ?_)) (fun h => Ret.mk (.inr ?_)))
      · simp only [Bool.and_eq_true, Bool.or_eq_true, decide_eq_true_eq] at h
        exact ⟨rfl, h⟩
      · refine ⟨rfl, fun q => ?_⟩
        simp only [Bool.and_eq_false_iff, Bool.or_eq_false_iff, decide_eq_false_iff_not] at h
        rcases h with h | h
        · exact h q.1
        · rcases q.2 with q2 | q2
          · exact h.1 q2
          · exact h.2 q2
    · refine Ret.chk (inR (by omega) (by omega)) (Ret.mk ⟨⟨k + 1, by simp, by omega, ?_⟩, by simp only; omega⟩)
      simp only
      have step : ∀ {Q : Nat → Prop}, (∀ m, m < k → Q m) → Q k → ∀ m, m < k + 1 → Q m := fun h1 h2 m hm => by
        rcases Nat.lt_or_ge m k with h | h
        · exact h1 m h
        · have : m = k := by omega
          subst this; exact h2
      rcases hn with ⟨rfl, h1, h2⟩ | ⟨rfl, h1⟩
      · refine .inr ⟨k, rfl, crs[k], List.getElem?_eq_getElem hk', h1, ?_⟩
        by_cases hlf : (crs[k]).h = lf d.h
        · exact .inl hlf
        · have h0 : next < 0 := h2.resolve_right hlf
          rcases hI with ⟨rfl, hI⟩ | ⟨j, rfl, _⟩
          · refine .inr fun m hm hmk => ?_
            rcases Nat.lt_or_ge m k with h | h
            · exact fun e => hI m hm h (by rw [e])
            · have : m = k := by omega
              subst this
              exact fun e => hlf (by rw [e])
          · omega
      · rcases hI with ⟨rfl, hI⟩ | ⟨j, rfl, x, hx1, hx2, hx3⟩
        · refine .inl ⟨rfl, fun m hm hmk => ?_⟩
          rcases Nat.lt_or_ge m k with h | h
          · exact hI m hm h
          · have : m = k := by omega
            subst this
            exact fun e => h1 ⟨e, .inl (by omega)⟩
        · refine .inr ⟨j, rfl, x, hx1, hx2, ?_⟩
          rcases hx3 with h | h
          · exact .inl h
          · refine .inr fun m hm hmk => ?_
            rcases Nat.lt_or_ge m k with h3 | h3
            · exact h m hm h3
            · have : m = k := by omega
              subst this
              exact fun e => h1 ⟨by rw [e], .inr (by rw [e])⟩
  · rw [decide_eq_false_iff_not] at hge
    have : k = crs.length := by omega
    subst this
    refine Ret.mk ?_
    have hnx : nxt S d ∈ crs := (hA.mem _).2 (nxt_isCr hd)
    rcases hI with ⟨rfl, hI⟩ | ⟨j, rfl, x, hx1, hx2, hx3⟩
    · obtain ⟨m, hm, e⟩ := List.getElem_of_mem hnx
      exact absurd (by rw [e]; exact nxt_p S d) (hI m hm hm)
    · refine ⟨j, rfl, ?_⟩
      rw [hx1]
      have hxS : isCr S x := (hA.mem x).1 (List.mem_of_getElem? hx1)
      have hxe : x = ⟨stp d.p d.h, x.h⟩ := by cases x; simp only at hx2; rw [hx2]
      have hxc : isC S (stp d.p d.h) x.h := by rw [← hx2]; exact hxS
      by_cases hL : isC S (stp d.p d.h) (lf d.h)
      · have hnl : nxt S d = ⟨stp d.p d.h, lf d.h⟩ := by unfold nxt; rw [if_pos hL]
        rcases hx3 with h | h
        · rw [hxe, h, hnl]
        · obtain ⟨m, hm, e⟩ := List.getElem_of_mem ((hA.mem ⟨stp d.p d.h, lf d.h⟩).2 hL)
          exact absurd e (h m hm hm)
      · rw [hxe, only_nxt hd hxc hL]
/-! ### polygon -/
/-- The corner between crack i and the next one, if there is one. -/
def turn (S : Int → Int → Prop) (c : Cr) (i : Nat) : List Pt := if (it S (i + 1) c).h ≠ (it S i c).h then [(it S (i + 1) c).p] else []
theorem turns_flat (c : Cr) : ∀ n, turns S c n = (List.range n).flatMap (turn S c)
  | 0 => rfl
  | n + 1 => by rw [turns, turns_flat c n, List.range_succ, List.flatMap_append]; simp [turn]
theorem turn_add (c : Cr) (m i : Nat) : turn S (it S m c) i = turn S c (m + i) := by
  unfold turn
  rw [← it_add, ← it_add, Nat.add_assoc]
theorem turn_per {c : Cr} {n : Nat} (hn : Per S c n) (i : Nat) : turn S c (n + i) = turn S c i := by
  rw [← turn_add, hn.back]
theorem least_heads {c : Cr} (hc : isCr S c) (hl : LeastAt S c) : (c.h = 0 ∧ S c.p.x c.p.y) ∨ (c.h = 1 ∧ ¬ S c.p.x c.p.y) := by
  have h1 := hl 1
  rw [show it S 1 c = nxt S c from rfl, nxt_p, lePt_iff] at h1
  rcases hc with ⟨e, h2, _⟩ | ⟨e, _, h2⟩ | ⟨e, _⟩ | ⟨e, _⟩
  · exact .inl ⟨e, h2⟩
  · exact .inr ⟨e, h2⟩
  · rw [e] at h1; simp [stp] at h1; omega
  · rw [e] at h1; simp [stp] at h1; omega
theorem least_once {c : Cr} (hc : isCr S c) (hl : LeastAt S c) {i : Nat} (hp : (it S i c).p = c.p) : it S i c = c := by
  have hci := it_isCr hc i
  have hli : LeastAt S (it S i c) := fun j => by rw [hp, ← it_add]; exact hl (i + j)
  have h1 := least_heads hc hl
  have h2 := least_heads hci hli
  rw [hp] at h2
  have : (it S i c).h = c.h := by
    rcases h1 with ⟨e1, q1⟩ | ⟨e1, q1⟩ <;> rcases h2 with ⟨e2, q2⟩ | ⟨e2, q2⟩
    · rw [e1, e2]
    · exact absurd q1 q2
    · exact absurd q2 q1
    · rw [e1, e2]
  cases hx : it S i c with
  | mk p h => rw [hx] at hp this; simp only at hp this; rw [hp, this]
theorem least_turn {c : Cr} (hc : isCr S c) (hl : LeastAt S c) {n : Nat} (hn : Per S c n) : turn S c (n - 1) = [c.p] := by
  have hpos := hn.pos
  obtain ⟨m, rfl⟩ : ∃ m, n = m + 1 := ⟨n - 1, by omega⟩
  rw [Nat.add_sub_cancel]
  unfold turn
  rw [hn.back]
  have hd := it_isCr hc m
  have e : nxt S (it S m c) = c := hn.back
  have hp : stp (it S m c).p (it S m c).h = c.p := by rw [← nxt_p S, e]
  have hle := hl m
  rw [lePt_iff] at hle
  have h1 := least_heads hc hl
  have h2 := isC_h hd
  have hne : c.h ≠ (it S m c).h := by
    intro heq
    generalize it S m c = d at hp hle h2 heq
    obtain ⟨⟨x, y⟩, k⟩ := d
    simp only at hp hle h2 heq
    rcases h1 with ⟨e1, _⟩ | ⟨e1, _⟩
    · rw [e1] at heq; subst heq
      rw [← hp] at hle; simp [stp] at hle
      omega
    · rw [e1] at heq; subst heq
      rw [← hp] at hle; simp [stp] at hle
      omega
  rw [if_pos hne]
/-- The corners, index by index. -/
theorem corners_flat {c : Cr} (hc : isCr S c) (hl : LeastAt S c) {n : Nat} (hn : Per S c n) : corners S c n = (List.range n).flatMap fun i => turn S c (n - 1 + i) := by
  have hpos := hn.pos
  obtain ⟨m, rfl⟩ : ∃ m, n = m + 1 := ⟨n - 1, by omega⟩
  unfold corners
  rw [Nat.add_sub_cancel, List.range_succ_eq_map, List.flatMap_cons, Nat.add_zero]
  have := least_turn hc hl hn
  rw [Nat.add_sub_cancel] at this
  rw [this, List.flatMap_map, turns_flat]
  show c.p :: _ = [c.p] ++ _
  rw [List.singleton_append]
  congr 1
  refine flatMap_congr' fun i _ => ?_
  rw [show m + (i + 1) = m + 1 + i by omega, turn_per hn]
def loopL (S : Int → Int → Prop) (c : Cr) (n : Nat) : List Crack := ((List.range n).map fun i => it S i c).map toCrack
theorem toCrack_dir {c d : Cr} (hc : c.h = 0 ∨ c.h = 1 ∨ c.h = 2 ∨ c.h = 3) (hd : d.h = 0 ∨ d.h = 1 ∨ d.h = 2 ∨ d.h = 3) : ((toCrack c).to.x - (toCrack c).frm.x ≠ (toCrack d).to.x - (toCrack d).frm.x ∨ (toCrack c).to.y - (toCrack c).frm.y ≠ (toCrack d).to.y - (toCrack d).frm.y) ↔ d.h ≠ c.h := by
  obtain ⟨⟨x, y⟩, k⟩ := c
  obtain ⟨⟨x', y'⟩, k'⟩ := d
  simp only at hc hd
  rcases hc with rfl | rfl | rfl | rfl <;> rcases hd with rfl | rfl | rfl | rfl <;> simp [toCrack, stp] <;> omega
theorem dir_small {c : Cr} : InR .i64 ((toCrack c).to.x - (toCrack c).frm.x) ∧ InR .i64 ((toCrack c).to.y - (toCrack c).frm.y) := by
  obtain ⟨⟨x, y⟩, k⟩ := c
  unfold toCrack stp
  simp only
  split
  · exact ⟨inR (by simp only; omega) (by simp only; omega), inR (by simp only; omega) (by simp only; omega)⟩
  · split
    · exact ⟨inR (by simp only; omega) (by simp only; omega), inR (by simp only; omega) (by simp only; omega)⟩
    · split <;> exact ⟨inR (by simp only; omega) (by simp only; omega), inR (by simp only; omega) (by simp only; omega)⟩
theorem lower_eq (a b : Pt) : Ret (R22_lower a b) fun x => x = true ↔ ltPt a b := by
  unfold R22_lower ltPt
  refine Ret.ifB (fun h => Ret.mk ?_) (fun h => Ret.mk ?_)
  · rw [bne_iff_ne] at h; rw [decide_eq_true_eq]; omega
  · have : a.y = b.y := by simpa using h
    rw [decide_eq_true_eq]; omega
theorem polygon_eq {c : Cr} (hc : isCr S c) (hl : LeastAt S c) {n : Nat} (hn : Per S c n) (hsm : n ≤ 268500996) {s : Nat} (hs : s < n) : R22_polygon (loopL S (it S s c) n) = some ⟨corners S c n⟩ := by
  have hpos := hn.pos
  have hcs := it_isCr hc s
  have hns := hn.shift hc s
  have hlen : (loopL S (it S s c) n).length = n := by unfold loopL; simp
  have hget : ∀ i (hi : i < n), (loopL S (it S s c) n)[i]? = some (toCrack (it S (s + i) c)) := fun i hi => by
    unfold loopL
    rw [List.getElem?_map, List.getElem?_map, List.getElem?_range hi, Option.map_some, Option.map_some, ← it_add]
  -- the corners from s on
  have hcor := corners_flat hc hl hn
  generalize hL : loopL S (it S s c) n = L at hlen hget
  refine Ret.eq ?_
  unfold R22_polygon
  let tl : List Pt := (List.range n).flatMap fun i => turn S c (n - 1 + (s + i))
  have htl : ∀ k, ((List.range k).flatMap fun i => turn S c (n - 1 + (s + i))).length ≤ k := fun k => by
    induction k with
    | zero => simp
    | succ k ih =>
      rw [List.range_succ, List.flatMap_append, List.length_append]
      have : (List.flatMap (fun i => turn S c (n - 1 + (s + i))) [k]).length ≤ 1 := by
        simp only [List.flatMap_cons, List.flatMap_nil, List.append_nil]
        unfold turn; split <;> simp
      omega
  refine Ret.bind (Q' := (· = tl)) ?_ (fun l hl' => ?_)
  · refine Ret.loop (I := fun x : List Pt × Int => ∃ k : Nat, x.2 = k ∧ k ≤ n ∧ x.1 = (List.range k).flatMap fun i => turn S c (n - 1 + (s + i))) (μ := fun x : List Pt × Int => n - x.2.toNat) (fun x hx => ?_) ⟨0, rfl, Nat.zero_le _, rfl⟩
    obtain ⟨acc, t⟩ := x
    obtain ⟨k, rfl, hk, hI⟩ := hx
    simp only at hI
    subst hI
    unfold R22_polygon_l3
    rw [hlen]
    refine Ret.ifB (fun hlt => ?_) (fun hge => ?_)
    · rw [decide_eq_true_eq] at hlt
      have hk' : k < n := by omega
      have hq : (k + n - 1) % n < n := Nat.mod_lt _ hpos
      have htm : ((k : Int) + (n : Int) - 1).tmod (n : Int) = (((k + n - 1) % n : Nat) : Int) := by
        rw [Int.tmod_eq_emod_of_nonneg (by omega), show (k : Int) + (n : Int) - 1 = ((k + n - 1 : Nat) : Int) by omega]; rfl
      have hprev : it S (s + (k + n - 1) % n) c = it S (n - 1 + (s + k)) c := by
        rw [it_add, ← hns.mod, ← it_add]; congr 1; omega
      have hcur : it S (s + k) c = it S (n - 1 + (s + k) + 1) c := by
        rw [show n - 1 + (s + k) + 1 = n + (s + k) by omega, it_add c n (s + k), hn.back]
      have hh1 := isC_h (it_isCr hc (n - 1 + (s + k)))
      have hh2 := isC_h (it_isCr hc (n - 1 + (s + k) + 1))
      have d1 := dir_small (c := it S (n - 1 + (s + k)) c)
      have d2 := dir_small (c := it S (n - 1 + (s + k) + 1) c)
      have hlk := htl k
      refine Ret.bind (Q' := fun l => l = ((List.range k).flatMap fun i => turn S c (n - 1 + (s + i))) ++ turn S c (n - 1 + (s + k))) ?_ (fun l hl' => ?_)
      · unfold R22_polygon_j2
        rw [hlen, htm]
        refine Ret.chk (inR (by omega) (by omega)) (Ret.chk (inR (by omega) (by omega)) (Ret.chk (by omega) ?_))
        refine Ret.bindE (getI_some rfl (hget _ hq)) ?_
        rw [hprev]
        have hj1 : R22_polygon_j1 (toCrack (it S (n - 1 + (s + k)) c)) L k = some (decide ((it S (n - 1 + (s + k) + 1) c).h ≠ (it S (n - 1 + (s + k)) c).h)) := by
          refine Ret.eq ?_
          unfold R22_polygon_j1
          refine Ret.chk d1.1 (Ret.bindE (getI_some rfl (hget k hk')) ?_)
          rw [hcur]
          refine Ret.chk d2.1 (Ret.ifB (fun h => Ret.mk ?_) (fun h => ?_))
          · rw [bne_iff_ne] at h
            rw [eq_comm, decide_eq_true_eq]
            exact (toCrack_dir hh1 hh2).1 (.inl h)
          · refine Ret.chk d1.2 (Ret.chk d2.2 (Ret.mk ?_))
            have h' : (toCrack (it S (n - 1 + (s + k)) c)).to.x - (toCrack (it S (n - 1 + (s + k)) c)).frm.x = (toCrack (it S (n - 1 + (s + k) + 1) c)).to.x - (toCrack (it S (n - 1 + (s + k) + 1) c)).frm.x := by simpa using h
            rw [Bool.eq_iff_iff, bne_iff_ne, decide_eq_true_eq, ← toCrack_dir hh1 hh2]
            constructor
            · exact fun h => .inr h
            · rintro (h | h)
              · exact absurd h' h
              · exact h
        refine Ret.bindE hj1 (Ret.ifB (fun h => ?_) (fun h => ?_))
        · rw [decide_eq_true_eq] at h
          refine Ret.bindE (getI_some rfl (hget k hk')) ?_
          rw [hcur]
          refine Ret.chk (by simp only [List.length_cons, List.length_nil]; omega) (Ret.mk ?_)
          unfold turn; rw [if_pos h]; rfl
        · rw [decide_eq_false_iff_not] at h
          refine Ret.mk ?_
          unfold turn; rw [if_neg h, List.append_nil]
      · subst hl'
        refine Ret.chk (inR (by omega) (by omega)) (Ret.mk ⟨⟨k + 1, by simp, by omega, ?_⟩, by simp only; omega⟩)
        simp only
        rw [List.range_succ, List.flatMap_append]; simp
    · rw [decide_eq_false_iff_not] at hge
      have : k = n := by omega
      subst this
      exact Ret.mk rfl
  · subst hl'
    -- X and Y
    let X : List Pt := (List.range (n - s)).flatMap fun i => turn S c (n - 1 + (s + i))
    let Y : List Pt := (List.range s).flatMap fun i => turn S c (n - 1 + i)
    have hXY : tl = X ++ Y := by
      have e : List.range n = List.range (n - s) ++ (List.range s).map (fun i => n - s + i) := by
        have h := List.range_add (n := n - s) (m := s)
        rwa [show n - s + s = n by omega] at h
      show (List.range n).flatMap _ = _
      rw [e, List.flatMap_append, List.flatMap_map]
      congr 1
      refine flatMap_congr' fun i _ => ?_
      rw [show n - 1 + (s + (n - s + i)) = n + (n - 1 + i) by omega, turn_per hn]
    have hYX : corners S c n = Y ++ X := by
      rw [hcor]
      have e : List.range n = List.range s ++ (List.range (n - s)).map (fun i => s + i) := by
        have h := List.range_add (n := s) (m := n - s)
        rwa [show s + (n - s) = n by omega] at h
      rw [e, List.flatMap_append, List.flatMap_map]
    have hmem : ∀ i, i < n → ∀ p ∈ turn S c (n - 1 + i), p = (it S i c).p := fun i hi p hp => by
      unfold turn at hp
      split at hp
      · simp only [List.mem_cons, List.not_mem_nil, or_false] at hp
        rw [hp, show n - 1 + i + 1 = n + i by omega, it_add, hn.back]
      · cases hp
    have hbig : ∀ i, 0 < i → i < n → ∀ p ∈ turn S c (n - 1 + i), ltPt c.p p := fun i hi hi2 p hp => by
      rw [hmem i hi2 p hp]
      exact lt_of_le_ne (hl i) fun e => hn.first i hi hi2 (least_once hc hl e.symm)
    have hXbig : 0 < s → ∀ p ∈ X, ltPt c.p p := fun h0 p hp => by
      obtain ⟨i, hi, hp⟩ := List.mem_flatMap.1 hp
      rw [List.mem_range] at hi
      exact hbig (s + i) (by omega) (by omega) p hp
    -- the least one stands first in Y ++ X
    have hhead : ∃ Z, Y ++ X = c.p :: Z ∧ ∀ p ∈ Z, ltPt c.p p := by
      rw [← hYX]
      refine ⟨turns S c (n - 1), rfl, fun p hp => ?_⟩
      rw [turns_flat] at hp
      obtain ⟨i, hi, hp⟩ := List.mem_flatMap.1 hp
      rw [List.mem_range] at hi
      refine hbig (i + 1) (by omega) (by omega) p ?_
      rw [show n - 1 + (i + 1) = n + i by omega, turn_per hn]; exact hp
    have hfirst : ∃ f : Nat, f < tl.length ∧ tl[f]? = some c.p ∧ (∀ j p, tl[j]? = some p → j ≠ f → ltPt c.p p) ∧ tl.drop f ++ tl.take f = Y ++ X := by
      obtain ⟨Z, hZ, hZb⟩ := hhead
      rcases Nat.eq_zero_or_pos s with h0 | h0
      · subst h0
        have hY : Y = [] := rfl
        rw [hY, List.nil_append] at hZ
        have htl' : tl = c.p :: Z := by rw [hXY, hY, List.append_nil, hZ]
        refine ⟨0, by rw [htl']; simp, by rw [htl']; rfl, fun j p hj hne => ?_, by rw [List.drop_zero, List.take_zero, List.append_nil, hXY, hY]; simp⟩
        rw [htl'] at hj
        obtain ⟨j', rfl⟩ : ∃ j', j = j' + 1 := ⟨j - 1, by omega⟩
        rw [List.getElem?_cons_succ] at hj
        exact hZb p (List.mem_of_getElem? hj)
      · have hY : ∃ Y', Y = c.p :: Y' := by
          have e : List.range s = 0 :: (List.range (s - 1)).map Nat.succ := by
            rw [← List.range_succ_eq_map]; congr 1; omega
          refine ⟨((List.range (s - 1)).map Nat.succ).flatMap fun i => turn S c (n - 1 + i), ?_⟩
          show (List.range s).flatMap _ = _
          rw [e, List.flatMap_cons, Nat.add_zero, least_turn hc hl hn]; rfl
        obtain ⟨Y', hY'⟩ := hY
        have hY'b : ∀ p ∈ Y', ltPt c.p p := fun p hp => by
          rw [hY', List.cons_append] at hZ
          injection hZ with _ hZ
          exact hZb p (by rw [← hZ]; simp [hp])
        refine ⟨X.length, by rw [hXY, hY']; simp, by rw [hXY, hY']; simp, fun j p hj hne => ?_, by rw [hXY]; simp⟩
        rw [hXY, hY'] at hj
        rw [List.getElem?_append] at hj
        split at hj
        · exact hXbig h0 p (List.mem_of_getElem? hj)
        · rename_i hjX
          obtain ⟨j', hj'⟩ : ∃ j', j - X.length = j' + 1 := ⟨j - X.length - 1, by omega⟩
          rw [hj', List.getElem?_cons_succ] at hj
          exact hY'b p (List.mem_of_getElem? hj)
    obtain ⟨f, hf, hfp, hfb, hfe⟩ := hfirst
    have htll : tl.length ≤ n := htl n
    refine Ret.bind (Q' := fun t => t = (f : Int)) ?_ (fun t ht => ?_)
    · refine Ret.loop (I := fun x : Int × Int => ∃ k g : Nat, x.1 = k ∧ x.2 = g ∧ k ≤ tl.length ∧ g < tl.length ∧ (f < k → g = f)) (μ := fun x : Int × Int => tl.length - x.1.toNat) (fun x hx => ?_) ⟨0, 0, rfl, rfl, Nat.zero_le _, by omega, fun h => absurd h (Nat.not_lt_zero _)⟩
      obtain ⟨t1, t2⟩ := x
      obtain ⟨k, g, rfl, rfl, hk, hg, hI⟩ := hx
      unfold R22_polygon_l5
      refine Ret.ifB (fun hlt => ?_) (fun hge => ?_)
      · rw [decide_eq_true_eq] at hlt
        have hk' : k < tl.length := by omega
        refine Ret.bind (Q' := fun t : Int => ∃ g' : Nat, t = g' ∧ g' < tl.length ∧ (f < k + 1 → g' = f)) ?_ (fun t ht => ?_)
        · unfold R22_polygon_j4
          refine Ret.getI rfl hk' (Ret.getI rfl hg (Ret.bind (lower_eq _ _) fun b hb => ?_))
          refine Ret.ifB (fun h => Ret.mk ⟨k, rfl, hk', fun hfk => ?_⟩) (fun h => Ret.mk ⟨g, rfl, hg, fun hfk => ?_⟩)
          · have hlt' := hb.1 h
            rcases Nat.lt_or_ge f k with h1 | h1
            · have := hI h1
              subst this
              have e : tl[g] = c.p := by rw [List.getElem?_eq_getElem hf] at hfp; exact Option.some.inj hfp
              rw [e] at hlt'
              exact absurd (hfb k _ (List.getElem?_eq_getElem hk') (by omega)) (ltPt_asymm hlt')
            · omega
          · rcases Nat.lt_or_ge f k with h1 | h1
            · exact hI h1
            · have hfk' : f = k := by omega
              subst hfk'
              refine Classical.byContradiction fun hne => ?_
              have e : tl[f] = c.p := by rw [List.getElem?_eq_getElem hf] at hfp; exact Option.some.inj hfp
              have := hfb g _ (List.getElem?_eq_getElem hg) hne
              rw [← e] at this
              rw [hb.2 this] at h; cases h
        · obtain ⟨g', rfl, hg', hI'⟩ := ht
          exact Ret.chk (inR (by omega) (by omega)) (Ret.mk ⟨⟨k + 1, g', by simp, rfl, by omega, hg', hI'⟩, by simp only; omega⟩)
      · rw [decide_eq_false_iff_not] at hge
        exact Ret.mk (by rw [hI (by omega)])
    · subst ht
      have h1 : (tl.drop f).length ≤ n := by rw [List.length_drop]; omega
      have h2 : (tl.take f).length ≤ n := by rw [List.length_take]; omega
      rw [Int.toNat_natCast]
      refine Ret.chk ⟨by omega, by omega⟩ (Ret.chk (by simp only [List.length_nil]; omega) (Ret.chk (by simp only [List.nil_append]; omega) (Ret.mk ?_)))
      rw [List.nil_append, hfe, hYX]
end
end Go.AM
end
