/- The reference's Trace, put together. -/
import Derived.Test.YtijdlphadhpabaaA3
import Derived.Test.YtijdlphadhpabaaA1
import Derived.Test.YtijdlphadhpabaaA9
import Derived.Test.YtijdlphadhpabaaA4
import Derived.Test.YtijdlphadhpabaaA2
import Derived.Test.YtijdlphadhpabaaA8
import Derived.Test.YtijdlphadhpabaaA6
import Derived.Test.YtijdlphadhpabaaA5
import Derived.Test.YtijdlphadhpabaaA7
import Derived.Test.YtijdlphadhpabaaP3
import Derived.Test.YtijdlphadhpabaaF9
import Derived.Test.YtijdlphadhpabaaF1
section
namespace Go.AM
open Go
noncomputable section
variable {S : Int → Int → Prop}
theorem ltPt_trans {p q r : Pt} (h : ltPt p q) (k : ltPt q r) : ltPt p r := by unfold ltPt at *; omega
theorem ltPt_total {p q : Pt} (h : ¬ ltPt p q) (hne : p ≠ q) : ltPt q p := by
  obtain ⟨x1, y1⟩ := p
  obtain ⟨x2, y2⟩ := q
  unfold ltPt at *
  simp only [ne_eq, Pt.mk.injEq] at h hne ⊢
  omega
theorem hd_get {P : Poly} (h : P.pts ≠ []) : P.pts[0]? = some (hd P) := by
  unfold hd
  cases hp : P.pts with
  | nil => exact absurd hp h
  | cons a l => rfl
theorem insert_eq {l : List Poly} {p : Poly} (hl : l.length ≤ 1000000000) (hne : ∀ q ∈ l, q.pts ≠ []) (hp : p.pts ≠ []) (hs : l.Pairwise (fun a b => ltPt (hd a) (hd b))) (hd' : ∀ q ∈ l, hd q ≠ hd p) :
    Ret (R22_insert l p) fun l' => l'.Pairwise (fun a b => ltPt (hd a) (hd b)) ∧ (∀ q, q ∈ l' ↔ q ∈ l ∨ q = p) ∧ l'.length = l.length + 1 := by
  unfold R22_insert
  refine Ret.bind (Q' := fun k1 : Int => ∃ k : Nat, k1 = k ∧ k ≤ l.length ∧ (∀ q ∈ l.take k, ltPt (hd q) (hd p)) ∧ ∀ q, l[k]? = some q → ¬ ltPt (hd q) (hd p)) ?_ (fun k1 hk1 => ?_)
  · refine Ret.loop (I := fun k1 : Int => ∃ k : Nat, k1 = k ∧ k ≤ l.length ∧ ∀ q ∈ l.take k, ltPt (hd q) (hd p)) (μ := fun k1 : Int => l.length - k1.toNat) (fun k1 hk1 => ?_) ⟨0, rfl, Nat.zero_le _, fun q hq => by simp at hq⟩
    obtain ⟨k, rfl, hk, hI⟩ := hk1
    unfold R22_insert_l2
    refine Ret.bind (Q' := fun b => (b = true → k < l.length ∧ ∀ q, l[k]? = some q → ltPt (hd q) (hd p)) ∧ (b = false → ∀ q, l[k]? = some q → ¬ ltPt (hd q) (hd p))) ?_ (fun b hb => ?_)
    · unfold R22_insert_j1
      refine Ret.ifB (fun h => ?_) (fun h => ?_)
      · rw [decide_eq_true_eq] at h
        have hk' : k < l.length := by omega
        refine Ret.getI rfl hk' (Ret.bindE (getI_some (k := 0) rfl (hd_get (hne _ (List.getElem_mem hk')))) (Ret.bindE (getI_some (k := 0) rfl (hd_get hp)) (Ret.bind (lower_eq _ _) fun b hb => Ret.mk ⟨fun h => ⟨hk', fun q hq => ?_⟩, fun h q hq hlt => ?_⟩)))
        · rw [List.getElem?_eq_getElem hk'] at hq; injection hq with hq; subst hq; exact hb.1 h
        · rw [List.getElem?_eq_getElem hk'] at hq; injection hq with hq; subst hq
          rw [hb.2 hlt] at h; cases h
      · rw [decide_eq_false_iff_not] at h
        refine Ret.mk ⟨(fun h => by cases h), fun _ q hq => ?_⟩
        have := (List.getElem?_eq_some_iff.1 hq).1
        omega
    · refine Ret.ifB (fun h => ?_) (fun h => Ret.mk ⟨k, rfl, hk, hI, hb.2 h⟩)
      obtain ⟨hk', hq'⟩ := hb.1 h
      refine Ret.chk (inR (by omega) (by omega)) (Ret.mk ⟨⟨k + 1, by simp, by omega, fun q hq => ?_⟩, by omega⟩)
      rw [List.take_succ_eq_append_getElem hk'] at hq
      rcases List.mem_append.1 hq with hq | hq
      · exact hI q hq
      · simp only [List.mem_cons, List.not_mem_nil, or_false] at hq
        subst hq
        exact hq' _ (List.getElem?_eq_getElem hk')
  · obtain ⟨k, rfl, hk, h1, h2⟩ := hk1
    rw [Int.toNat_natCast]
    have ht : (l.take k).length ≤ l.length := by rw [List.length_take]; omega
    have hdl : (l.drop k).length ≤ l.length := by rw [List.length_drop]; omega
    refine Ret.chk ⟨by omega, by omega⟩ (Ret.chk (by simp only [List.length_nil]; omega) (Ret.chk (by simp only [List.nil_append, List.length_cons, List.length_nil]; omega) (Ret.chk (by simp only [List.nil_append, List.length_append, List.length_cons, List.length_nil]; omega) (Ret.mk ⟨?_, fun q => ?_, ?_⟩))))
    · rw [List.nil_append, List.append_assoc, List.pairwise_append]
      have hsp := hs
      rw [← List.take_append_drop k l, List.pairwise_append] at hsp
      obtain ⟨s1, s2, s3⟩ := hsp
      have hdrop : ∀ q ∈ l.drop k, ltPt (hd p) (hd q) := fun q hq => by
        cases hd0 : l.drop k with
        | nil => rw [hd0] at hq; cases hq
        | cons x m =>
          have hx : l[k]? = some x := by rw [← List.head?_drop, hd0]; rfl
          have hxp := ltPt_total (h2 x hx) (hd' x (List.mem_of_getElem? hx))
          rw [hd0] at hq s2
          rcases List.mem_cons.1 hq with rfl | hq
          · exact hxp
          · exact ltPt_trans hxp ((List.pairwise_cons.1 s2).1 q hq)
      refine ⟨s1, ?_, fun a ha b hb => ?_⟩
      · rw [List.singleton_append, List.pairwise_cons]
        exact ⟨hdrop, s2⟩
      · rw [List.singleton_append] at hb
        rcases List.mem_cons.1 hb with rfl | hb
        · exact h1 a ha
        · exact s3 a ha b hb
    · rw [List.nil_append, List.mem_append, List.mem_append]
      have e : q ∈ l ↔ q ∈ l.take k ∨ q ∈ l.drop k := by rw [← List.mem_append, List.take_append_drop]
      rw [e]
      simp only [List.mem_cons, List.not_mem_nil, or_false]
      constructor
      · rintro ((h | h) | h)
        · exact .inl (.inl h)
        · exact .inr h
        · exact .inl (.inr h)
      · rintro ((h | h) | h)
        · exact .inl (.inl h)
        · exact .inr h
        · exact .inl (.inr h)
    · simp only [List.nil_append, List.length_append, List.length_cons, List.length_nil, List.length_take, List.length_drop]; omega
theorem exists_leastAt {c : Cr} {n : Nat} (hn : Per S c n) : ∃ s, s < n ∧ LeastAt S (it S s c) := by
  have key : ∀ m, 0 < m → ∃ s, s < m ∧ ∀ i, i < m → lePt (it S s c).p (it S i c).p = true := by
    intro m
    induction m with
    | zero => intro h; exact absurd h (Nat.not_lt_zero _)
    | succ m ih =>
      intro _
      rcases Nat.eq_zero_or_pos m with h | h
      · subst h
        refine ⟨0, by omega, fun i hi => ?_⟩
        have : i = 0 := by omega
        subst this
        rw [lePt_iff]; omega
      · obtain ⟨s, hs, hl⟩ := ih h
        have ht := lePt_total (it S s c).p (it S m c).p
        rw [Bool.or_eq_true] at ht
        rcases ht with ht | ht
        · refine ⟨s, by omega, fun i hi => ?_⟩
          rcases Nat.lt_or_ge i m with h1 | h1
          · exact hl i h1
          · have : i = m := by omega
            subst this; exact ht
        · refine ⟨m, by omega, fun i hi => ?_⟩
          rcases Nat.lt_or_ge i m with h1 | h1
          · exact lePt_trans _ _ _ ht (hl i h1)
          · have : i = m := by omega
            subst this
            rw [lePt_iff]; omega
  obtain ⟨s, hs, hl⟩ := key n hn.pos
  refine ⟨s, hs, fun i => ?_⟩
  rw [← it_add, hn.mod (s + i)]
  exact hl _ (Nat.mod_lt _ hn.pos)
theorem least_uniq {c d : Cr} (hc : isCr S c) (hF : FinS S) (hl : LeastAt S c) (hd : LeastAt S d) (h : Same S c d) : c = d := by
  obtain ⟨i, rfl⟩ := h
  obtain ⟨j, hj⟩ := Same.symm hF hc ⟨i, rfl⟩
  have h1 := hl i
  have h2 := hd j
  rw [hj] at h2
  have := lePt_antisymm _ _ h1 h2
  exact (least_once hc hl this.symm).symm
theorem least_pt {c d : Cr} (hc : isCr S c) (hd : isCr S d) (hl : LeastAt S c) (kl : LeastAt S d) (hp : c.p = d.p) : c = d := by
  have h1 := least_heads hc hl
  have h2 := least_heads hd kl
  rw [hp] at h1
  have : c.h = d.h := by
    rcases h1 with ⟨e1, q1⟩ | ⟨e1, q1⟩ <;> rcases h2 with ⟨e2, q2⟩ | ⟨e2, q2⟩
    · rw [e1, e2]
    · exact absurd q1 q2
    · exact absurd q2 q1
    · rw [e1, e2]
  cases c; cases d; simp only at hp this; rw [hp, this]
/-- Is it done? -/
def DoneAt (crs : List Cr) (done : List Bool) (c : Cr) : Prop := ∃ j : Nat, crs[j]? = some c ∧ done[j]? = some true
structure RefI (S : Int → Int → Prop) (crs : List Cr) (k : Nat) (done : List Bool) (out : List Poly) : Prop where
  len : done.length = crs.length
  cl : ∀ c, DoneAt crs done c → DoneAt crs done (nxt S c)
  all : ∀ j : Nat, j < k → done[j]? = some true
  sorted : out.Pairwise (fun a b => ltPt (hd a) (hd b))
  mem : ∀ P, P ∈ out ↔ ∃ c n, isCr S c ∧ Per S c n ∧ LeastAt S c ∧ P = ⟨corners S c n⟩ ∧ DoneAt crs done c
  few : out.length ≤ k
theorem idx_inj {crs : List Cr} (hnd : crs.Nodup) {i j : Nat} {c : Cr} (h1 : crs[i]? = some c) (h2 : crs[j]? = some c) : i = j := by
  have hi := (List.getElem?_eq_some_iff.1 h1).1
  exact (List.getElem?_inj hi hnd).1 (h1.trans h2.symm)
theorem ref_step (hq : Sq S) {crs : List Cr} (hA : All S crs) {k : Nat} (hk : k < crs.length) {done : List Bool} {out : List Poly} (h : RefI S crs k done out) :
    Ret (R22_Trace_j2 (crs.map toCrack) done k out) fun o => RefI S crs (k + 1) o.1 o.2 := by
  have hF := hq.fin
  have hfew := hA.few
  have hlen := h.len
  have hcl : ∀ {c : Cr} (i : Nat), DoneAt crs done c → DoneAt crs done (it S i c) := fun i hc => by
    induction i with
    | zero => exact hc
    | succ i ih => exact h.cl _ ih
  obtain ⟨c0, hc0⟩ : ∃ c, crs[k]? = some c := ⟨_, List.getElem?_eq_getElem hk⟩
  have hc0S : isCr S c0 := (hA.mem c0).1 (List.mem_of_getElem? hc0)
  have hkd : k < done.length := by omega
  unfold R22_Trace_j2
  by_cases hdone : done[k] = true
  · -- nothing to do
    refine Ret.bind (Q' := fun o => o = (done, [])) ?_ (fun o ho => ?_)
    · have hst : R22_Trace_l1 (crs.map toCrack) (done, [], (k : Int)) = some (.inr (done, [])) := by
        refine Ret.eq ?_
        unfold R22_Trace_l1
        refine Ret.getI rfl hkd (Ret.ifF (by rw [hdone]; rfl) (Ret.mk rfl))
      exact Ret.of (loopP_inr hst) rfl
    · subst ho
      refine Ret.ifF (by simp) (Ret.mk { h with all := fun j hj => ?_, few := by have := h.few; simp only; omega })
      rcases Nat.lt_or_ge j k with h1 | h1
      · exact h.all j h1
      · have : j = k := by omega
        subst this
        simp only
        rw [List.getElem?_eq_getElem hkd, hdone]
  · have hkf : ¬ DoneAt crs done c0 := fun ⟨j, h1, h2⟩ => by
      have := idx_inj hA.nd h1 hc0
      subst this
      rw [List.getElem?_eq_getElem hkd] at h2
      exact hdone (Option.some.inj h2)
    obtain ⟨n, hn⟩ := exists_per hF hc0S
    have hnf := Per.few hq hc0S hn
    refine Ret.bind (Q' := fun o => o.2 = loopL S c0 n ∧ o.1.length = crs.length ∧ ∀ (j : Nat) (c : Cr), crs[j]? = some c → (o.1[j]? = some true ↔ done[j]? = some true ∨ ∃ s, s < n ∧ it S s c0 = c)) ?_ (fun o ho => ?_)
    · refine Ret.loopN (I := fun (m : Nat) (s : List Bool × List Crack × Int) => ∃ t a : Nat, m + t = n ∧ s.2.2 = a ∧ crs[a]? = some (it S t c0) ∧ s.2.1 = loopL S c0 t ∧ s.1.length = crs.length ∧ ∀ (j : Nat) (c : Cr), crs[j]? = some c → (s.1[j]? = some true ↔ done[j]? = some true ∨ ∃ i, i < t ∧ it S i c0 = c)) (fun m s hs => ?_) n
        ⟨0, k, by omega, rfl, hc0, rfl, hlen, fun j c hj => ⟨fun hh => .inl hh, fun hh => hh.resolve_right (fun ⟨i, hi, _⟩ => absurd hi (Nat.not_lt_zero _))⟩⟩
      obtain ⟨dn, lp, at_⟩ := s
      obtain ⟨t, a, hmt, rfl, hat, hlp, hdl, hdn⟩ := hs
      simp only at hlp hdl hdn
      have hal : a < crs.length := (List.getElem?_eq_some_iff.1 hat).1
      have had : a < dn.length := by omega
      have hca : crs[a] = it S t c0 := by rw [List.getElem?_eq_getElem hal] at hat; exact Option.some.inj hat
      unfold R22_Trace_l1
      refine Ret.getI rfl had (Ret.ifB (fun hx => ?_) (fun hx => ?_))
      · rw [Bool.not_eq_true'] at hx
        have hxd : ¬ dn[a]? = some true := by rw [List.getElem?_eq_getElem had, hx]; simp
        have htn : t < n := by
          refine Classical.byContradiction fun hge => ?_
          have e : t = n := by omega
          subst e
          refine hxd ((hdn a _ hat).2 (.inr ⟨0, hn.pos, ?_⟩))
          rw [hn.back]; rfl
        have hll : lp.length ≤ n := by rw [hlp]; unfold loopL; simp; omega
        refine Ret.getI (k := a) rfl (by rw [List.length_map]; exact hal) ?_
        rw [List.getElem_map, hca]
        refine Ret.chk (by simp only [List.length_cons, List.length_nil]; omega) ?_
        refine Ret.bind (after_eq hA hat) fun nx hnx => ?_
        obtain ⟨j, rfl, hj⟩ := hnx
        refine Ret.mk ⟨m - 1, by omega, t + 1, j, by omega, rfl, hj, ?_, by simp only [List.length_set]; exact hdl, fun i c hi => ?_⟩
        · simp only
          rw [hlp]
          unfold loopL
          rw [List.range_succ, List.map_append, List.map_append]
          rfl
        · simp only
          rw [Int.toNat_natCast, List.getElem?_set]
          by_cases e : a = i
          · subst e
            rw [if_pos rfl, if_pos had]
            refine ⟨fun _ => .inr ⟨t, by omega, ?_⟩, fun _ => rfl⟩
            rw [hat] at hi; exact Option.some.inj hi
          · rw [if_neg e, hdn i c hi]
            constructor
            · rintro (h1 | ⟨s, hs, h1⟩)
              · exact .inl h1
              · exact .inr ⟨s, by omega, h1⟩
            · rintro (h1 | ⟨s, hs, h1⟩)
              · exact .inl h1
              · rcases Nat.lt_or_ge s t with h2 | h2
                · exact .inr ⟨s, h2, h1⟩
                · have : s = t := by omega
                  subst this
                  exact absurd (idx_inj hA.nd (hat.trans (by rw [h1])) hi) e
      · rw [Bool.not_eq_false'] at hx
        have hxd : dn[a]? = some true := by rw [List.getElem?_eq_getElem had, hx]
        have htn : t = n := by
          rcases (hdn a _ hat).1 hxd with h1 | ⟨s, hs, h1⟩
          · exfalso
            have hD : DoneAt crs done (it S t c0) := ⟨a, hat, h1⟩
            obtain ⟨j, hj⟩ := Same.symm hF hc0S (⟨t, rfl⟩ : Same S c0 (it S t c0))
            exact hkf (hj ▸ hcl j hD)
          · rcases Nat.lt_or_ge t n with h2 | h2
            · have := hn.inj hc0S (by omega) h2 h1; omega
            · omega
        subst htn
        exact Ret.mk ⟨hlp, hdl, hdn⟩
    · obtain ⟨dn, lp⟩ := o
      obtain ⟨hlp, hdl, hdn⟩ := ho
      simp only at hlp hdl hdn
      have hll : lp.length = n := by rw [hlp]; unfold loopL; simp
      have hpos := hn.pos
      refine Ret.ifT (by rw [decide_eq_true_eq]; omega) ?_
      -- the least corner
      obtain ⟨s, hs, hls⟩ := exists_leastAt hn
      have hcS := it_isCr hc0S s
      have hnc := hn.shift hc0S s
      have hback : it S ((n - s) % n) (it S s c0) = c0 := by
        rw [← hnc.mod, ← it_add, show s + (n - s) = n by omega, hn.back]
      have hpoly := polygon_eq hcS hls hnc hnf (Nat.mod_lt (n - s) hpos)
      rw [hback, ← hlp] at hpoly
      refine Ret.bindE hpoly ?_
      have hof := h.few
      have hpt : ∀ q ∈ out, q.pts ≠ [] := fun q hq' => by
        obtain ⟨c, m, _, _, _, rfl, _⟩ := (h.mem q).1 hq'
        unfold corners; simp
      have hDno : ∀ {i : Nat}, ¬ DoneAt crs done (it S i c0) := fun {i} hD => by
        obtain ⟨j, hj⟩ := Same.symm hF hc0S (⟨i, rfl⟩ : Same S c0 (it S i c0))
        exact hkf (hj ▸ hcl j hD)
      have hhd : ∀ q ∈ out, hd q ≠ hd ⟨corners S (it S s c0) n⟩ := fun q hq' e => by
        obtain ⟨c, m, h1, h2, h3, rfl, h5⟩ := (h.mem q).1 hq'
        rw [hd_corners, hd_corners] at e
        have := least_pt h1 hcS h3 hls e
        subst this
        exact hDno h5
      refine Ret.bind (insert_eq (by omega) hpt (by unfold corners; simp) h.sorted hhd) fun out' ho' => Ret.mk ?_
      have hD : ∀ c, DoneAt crs dn c ↔ DoneAt crs done c ∨ ∃ i, i < n ∧ it S i c0 = c := fun c => by
        constructor
        · rintro ⟨j, h1, h2⟩
          rcases (hdn j c h1).1 h2 with h3 | h3
          · exact .inl ⟨j, h1, h3⟩
          · exact .inr h3
        · rintro (⟨j, h1, h2⟩ | ⟨i, hi, h1⟩)
          · exact ⟨j, h1, (hdn j c h1).2 (.inl h2)⟩
          · have hcm : c ∈ crs := (hA.mem c).2 (h1 ▸ it_isCr hc0S i)
            obtain ⟨j, hj⟩ := List.mem_iff_getElem?.1 hcm
            exact ⟨j, hj, (hdn j c hj).2 (.inr ⟨i, hi, h1⟩)⟩
      exact {
        len := hdl
        cl := fun c hc => by
          rw [hD] at hc ⊢
          rcases hc with hc | ⟨i, hi, rfl⟩
          · exact .inl (h.cl c hc)
          · refine .inr ⟨(i + 1) % n, Nat.mod_lt _ hpos, ?_⟩
            rw [← hn.mod]; rfl
        all := fun j hj => by
          have hjl : j < crs.length := by omega
          rcases Nat.lt_or_ge j k with h1 | h1
          · exact (hdn j _ (List.getElem?_eq_getElem hjl)).2 (.inl (h.all j h1))
          · have : j = k := by omega
            subst this
            exact (hdn j _ hc0).2 (.inr ⟨0, hpos, rfl⟩)
        sorted := ho'.1
        mem := fun P => by
          simp only
          rw [ho'.2.1, h.mem]
          constructor
          · rintro (⟨c, m, h1, h2, h3, h4, h5⟩ | rfl)
            · exact ⟨c, m, h1, h2, h3, h4, (hD c).2 (.inl h5)⟩
            · exact ⟨it S s c0, n, hcS, hnc, hls, rfl, (hD _).2 (.inr ⟨s, hs, rfl⟩)⟩
          · rintro ⟨c, m, h1, h2, h3, h4, h5⟩
            rcases (hD c).1 h5 with h6 | ⟨i, hi, h6⟩
            · exact .inl ⟨c, m, h1, h2, h3, h4, h6⟩
            · right
              have hsame : Same S (it S s c0) c := by
                obtain ⟨j, hj⟩ := Same.symm hF hc0S (⟨s, rfl⟩ : Same S c0 (it S s c0))
                exact ⟨j + i, by rw [it_add, hj, h6]⟩
              have := least_uniq hcS hF hls h3 hsame
              subst this
              rw [h4, h2.uniq hnc]
        few := by simp only; omega }
theorem RTrace_eq (r : Region) (hr : r.Ok) (hV : VReg r) : Ret (R22_Trace r) fun ps => Traces (inG r) ps := by
  have hq := sq_inG hV
  have hA : All (inG r) (crsOf r) := ⟨nodup_crsOf hV, fun c => mem_crsOf, crsOf_few hV⟩
  have hfew := hA.few
  unfold R22_Trace
  refine Ret.bindE (R18_Valid_eq r hr) ?_
  rw [validB_iff.2 hV]
  refine Ret.ifF rfl (Ret.bindE (rcracks_eq r hr hV) ?_)
  have hlen : ((crsOf r).map toCrack).length = (crsOf r).length := List.length_map _
  rw [hlen]
  refine Ret.chk (by omega) (Ret.bind (Q' := fun ps => Traces (inG r) ps) ?_ fun ps h => Ret.mk h)
  rw [Int.toNat_natCast]
  refine Ret.loop (I := fun s : List Bool × List Poly × Int => ∃ k : Nat, s.2.2 = k ∧ k ≤ (crsOf r).length ∧ RefI (inG r) (crsOf r) k s.1 s.2.1) (μ := fun s : List Bool × List Poly × Int => (crsOf r).length - s.2.2.toNat) (fun s hs => ?_) ⟨0, rfl, Nat.zero_le _, ?_⟩
  · obtain ⟨done, out, t⟩ := s
    obtain ⟨k, rfl, hk, hI⟩ := hs
    simp only at hI
    unfold R22_Trace_l3
    rw [hlen]
    refine Ret.ifB (fun hlt => ?_) (fun hge => ?_)
    · rw [decide_eq_true_eq] at hlt
      have hk' : k < (crsOf r).length := by omega
      refine Ret.bind (ref_step hq hA hk' hI) fun o ho => ?_
      obtain ⟨d', o'⟩ := o
      exact Ret.chk (inR (by omega) (by omega)) (Ret.mk ⟨⟨k + 1, by simp, by omega, ho⟩, by simp only; omega⟩)
    · rw [decide_eq_false_iff_not] at hge
      have : k = (crsOf r).length := by omega
      subst this
      refine Ret.mk ⟨hI.sorted, fun P => ?_⟩
      rw [hI.mem]
      constructor
      · rintro ⟨c, n, h1, h2, h3, h4, _⟩; exact ⟨c, n, h1, h2, h3, h4⟩
      · rintro ⟨c, n, h1, h2, h3, h4⟩
        obtain ⟨j, hj⟩ := List.mem_iff_getElem?.1 ((hA.mem c).2 h1)
        exact ⟨c, n, h1, h2, h3, h4, j, hj, hI.all j (List.getElem?_eq_some_iff.1 hj).1⟩
  · have hno : ∀ c, ¬ DoneAt (crsOf r) (List.replicate (crsOf r).length false) c := fun c ⟨j, _, h⟩ => by
      rw [List.getElem?_replicate] at h
      split at h <;> cases h
    exact ⟨by simp, fun c hc => absurd hc (hno c), fun j hj => absurd hj (Nat.not_lt_zero _), List.Pairwise.nil, fun P => ⟨(fun h => by cases h), fun ⟨c, n, _, _, _, _, h⟩ => absurd h (hno c)⟩, Nat.zero_le _⟩
end
end Go.AM
end
section
namespace Go.AM
open Go
noncomputable section
variable {S : Int → Int → Prop}
def dv (h : Int) : Pt := if h = 0 then ⟨1, 0⟩ else if h = 1 then ⟨0, 1⟩ else if h = 2 then ⟨-1, 0⟩ else ⟨0, -1⟩
theorem stp_dv (p : Pt) (h : Int) : stp p h = ⟨p.x + (dv h).x, p.y + (dv h).y⟩ := by
  unfold stp dv
  split
  · simp
  · split
    · simp
    · split <;> simp <;> omega
theorem dv_cases {h : Int} (hh : h = 0 ∨ h = 1 ∨ h = 2 ∨ h = 3) : (dv h = ⟨1, 0⟩ ∧ h = 0) ∨ (dv h = ⟨0, 1⟩ ∧ h = 1) ∨ (dv h = ⟨-1, 0⟩ ∧ h = 2) ∨ (dv h = ⟨0, -1⟩ ∧ h = 3) := by
  rcases hh with rfl | rfl | rfl | rfl <;> simp [dv]
/-- The cells seen at a crack: the one on its left, and round a right turn the one ahead of it. -/
def rtc (S : Int → Int → Prop) (d : Cr) : List Cell := if (nxt S d).h = rt d.h then [⟨(lcell d).x + (dv d.h).x, (lcell d).y + (dv d.h).y⟩] else []
def vis (S : Int → Int → Prop) (d : Cr) : List Cell := lcell d :: rtc S d
def upTo (S : Int → Int → Prop) (c : Cr) (i : Nat) : List Cell := (List.range i).flatMap fun m => vis S (it S m c)
theorem upTo_succ (c : Cr) (i : Nat) : upTo S c (i + 1) = upTo S c i ++ vis S (it S i c) := by
  unfold upTo; rw [List.range_succ, List.flatMap_append]; simp
/-- The places of the corners. -/
def cidx (S : Int → Int → Prop) (c : Cr) (n : Nat) : List Nat := (List.range n).filter fun i => decide (i = 0 ∨ (it S i c).h ≠ (it S (i - 1) c).h)
theorem flat_if {α β : Type} {P : α → Prop} [DecidablePred P] {f : α → β} : ∀ (l : List α), (l.flatMap fun a => if P a then [f a] else []) = (l.filter fun a => decide (P a)).map f
  | [] => rfl
  | a :: l => by
    rw [List.flatMap_cons, flat_if l]
    by_cases h : P a
    · rw [if_pos h, List.filter_cons_of_pos (by simpa using h)]; rfl
    · rw [if_neg h, List.filter_cons_of_neg (by simpa using h)]; rfl
theorem corners_idx (c : Cr) {n : Nat} (hn : 0 < n) : corners S c n = (cidx S c n).map fun i => (it S i c).p := by
  obtain ⟨m, rfl⟩ : ∃ m, n = m + 1 := ⟨n - 1, by omega⟩
  unfold corners cidx
  rw [Nat.add_sub_cancel, List.range_succ_eq_map, List.filter_cons_of_pos (by simp), List.map_cons, List.filter_map, List.map_map, turns_flat]
  unfold turn
  rw [flat_if]
  congr 1
  have e : (fun a => decide ((it S (a + 1) c).h ≠ (it S a c).h)) = ((fun i => decide (i = 0 ∨ (it S i c).h ≠ (it S (i - 1) c).h)) ∘ Nat.succ) := by
    funext a
    simp
  rw [e]
  rfl
theorem cidx_sorted (c : Cr) (n : Nat) : (cidx S c n).Pairwise (· < ·) := List.Pairwise.filter _ List.pairwise_lt_range
theorem cidx_mem {c : Cr} {n i : Nat} : i ∈ cidx S c n ↔ i < n ∧ (i = 0 ∨ (it S i c).h ≠ (it S (i - 1) c).h) := by
  unfold cidx; rw [List.mem_filter, List.mem_range, decide_eq_true_eq]
/-- Corner j's place; behind the last one: n. -/
def pl (S : Int → Int → Prop) (c : Cr) (n j : Nat) : Nat := ((cidx S c n)[j]?).getD n
theorem pl_get {c : Cr} {n j : Nat} (h : j < (cidx S c n).length) : pl S c n j = (cidx S c n)[j] := by unfold pl; rw [List.getElem?_eq_getElem h]; rfl
theorem pl_end {c : Cr} {n j : Nat} (h : (cidx S c n).length ≤ j) : pl S c n j = n := by unfold pl; rw [List.getElem?_eq_none h]; rfl
theorem pl_lt {c : Cr} {n j : Nat} (h : j < (cidx S c n).length) : pl S c n j < n := by rw [pl_get h]; exact (cidx_mem.1 (List.getElem_mem h)).1
theorem pl_mono {c : Cr} {n j : Nat} (h : j < (cidx S c n).length) : pl S c n j < pl S c n (j + 1) := by
  rcases Nat.lt_or_ge (j + 1) (cidx S c n).length with h1 | h1
  · rw [pl_get h, pl_get h1]
    exact List.pairwise_iff_getElem.1 (cidx_sorted c n) j (j + 1) h h1 (by omega)
  · rw [pl_end h1]; exact pl_lt h
theorem pl_zero {c : Cr} {n : Nat} (hn : 0 < n) : pl S c n 0 = 0 ∧ 0 < (cidx S c n).length := by
  obtain ⟨m, rfl⟩ : ∃ m, n = m + 1 := ⟨n - 1, by omega⟩
  have e : ∃ l, cidx S c (m + 1) = 0 :: l := by
    unfold cidx
    rw [List.range_succ_eq_map, List.filter_cons_of_pos (by simp)]
    exact ⟨_, rfl⟩
  obtain ⟨l, hl⟩ := e
  unfold pl
  rw [hl]; exact ⟨rfl, by simp⟩
/-- Between two corners the way is straight. -/
theorem pl_straight {c : Cr} {n j : Nat} (hj : j < (cidx S c n).length) : ∀ m, pl S c n j ≤ m → m < pl S c n (j + 1) → (it S m c).h = (it S (pl S c n j) c).h := by
  intro m
  induction m with
  | zero =>
    intro h1 _
    have : pl S c n j = 0 := by omega
    rw [this]
  | succ m ih =>
    intro h1 h2
    rcases Nat.lt_or_ge (pl S c n j) (m + 1) with h3 | h3
    · rw [← ih (by omega) (by omega)]
      refine Classical.byContradiction fun hne => ?_
      have hmn : m + 1 < n := by
        rcases Nat.lt_or_ge (j + 1) (cidx S c n).length with h4 | h4
        · have := pl_lt h4; omega
        · rw [pl_end h4] at h2; exact h2
      have hmem : m + 1 ∈ cidx S c n := cidx_mem.2 ⟨hmn, .inr hne⟩
      obtain ⟨t, ht, he⟩ := List.getElem_of_mem hmem
      have hs := List.pairwise_iff_getElem.1 (cidx_sorted (S := S) c n)
      rw [pl_get hj] at h3
      have htj : j < t := by
        rcases Nat.lt_trichotomy t j with h5 | h5 | h5
        · have := hs t j ht hj h5; omega
        · subst h5; omega
        · exact h5
      rcases Nat.lt_or_ge (j + 1) (cidx S c n).length with h4 | h4
      · rw [pl_get h4] at h2
        rcases Nat.lt_trichotomy t (j + 1) with h5 | h5 | h5
        · omega
        · subst h5; omega
        · have := hs (j + 1) t h4 ht h5; omega
      · omega
    · have : m + 1 = pl S c n j := by omega
      rw [this]
theorem pl_point {c : Cr} {n j : Nat} (hj : j < (cidx S c n).length) : ∀ t, pl S c n j + t ≤ pl S c n (j + 1) → (it S (pl S c n j + t) c).p = ⟨(it S (pl S c n j) c).p.x + t * (dv (it S (pl S c n j) c).h).x, (it S (pl S c n j) c).p.y + t * (dv (it S (pl S c n j) c).h).y⟩ := by
  intro t
  induction t with
  | zero => intro _; simp
  | succ t ih =>
    intro h
    have e := ih (by omega)
    have hh := pl_straight hj (pl S c n j + t) (by omega) (by omega)
    rw [← Nat.add_assoc]
    show (nxt S (it S (pl S c n j + t) c)).p = _
    rw [nxt_p, stp_dv, hh, e]
    simp only [Pt.mk.injEq]
    constructor
    · rw [show ((t + 1 : Nat) : Int) = (t : Int) + 1 by omega, Int.add_mul]; omega
    · rw [show ((t + 1 : Nat) : Int) = (t : Int) + 1 by omega, Int.add_mul]; omega
/-- Corner j of the polygon. -/
theorem corner_get {c : Cr} {n : Nat} (hn : Per S c n) {j : Nat} (hj : j ≤ (cidx S c n).length) : (corners S c n)[j % (corners S c n).length]? = some (it S (pl S c n j) c).p := by
  have hlen : (corners S c n).length = (cidx S c n).length := by rw [corners_idx c hn.pos, List.length_map]
  have h0 := pl_zero (S := S) (c := c) hn.pos
  rw [hlen]
  rcases Nat.lt_or_ge j (cidx S c n).length with h | h
  · rw [Nat.mod_eq_of_lt h, corners_idx c hn.pos, List.getElem?_map, List.getElem?_eq_getElem h, pl_get h]; rfl
  · have : j = (cidx S c n).length := by omega
    subst this
    rw [Nat.mod_self, pl_end (Nat.le_refl _), hn.back, corners_idx c hn.pos, List.getElem?_map, List.getElem?_eq_getElem h0.2]
    obtain ⟨h00, h01⟩ := h0
    have := pl_get h01
    rw [h00] at this
    rw [← this]; rfl
/-- There are two corners at least. -/
theorem cidx_two {c : Cr} (hc : isCr S c) {n : Nat} (hn : Per S c n) : 2 ≤ (cidx S c n).length := by
  have h0 := pl_zero (S := S) (c := c) hn.pos
  refine Classical.byContradiction fun hlt => ?_
  have h1 : (cidx S c n).length = 1 := by omega
  have hp := pl_point h0.2 n (by rw [h0.1, pl_end (by omega)]; omega)
  rw [h0.1, Nat.zero_add, hn.back] at hp
  have hpos := hn.pos
  have hh := isC_h hc
  have e : (it S 0 c) = c := rfl
  rw [e] at hp
  cases hcp : c.p with
  | mk x y =>
    rw [hcp] at hp
    simp only [Pt.mk.injEq] at hp
    rcases dv_cases hh with ⟨e, _⟩ | ⟨e, _⟩ | ⟨e, _⟩ | ⟨e, _⟩ <;> (rw [e] at hp; simp only at hp; omega)
/-! ### Without repetitions -/
def adc (l : List Cell) (c : Cell) : List Cell := if l.getLast? = some c then l else l ++ [c]
def ddl (l : List Cell) : List Cell := l.foldl adc []
def trim (l : List Cell) : List Cell := if 1 < l.length ∧ l.head? = l.getLast? then l.dropLast else l
theorem ddl_snoc (l : List Cell) (c : Cell) : ddl (l ++ [c]) = adc (ddl l) c := by unfold ddl; rw [List.foldl_append]; rfl
theorem ddl_len : ∀ (l : List Cell), (ddl l).length ≤ l.length := fun l => by
  have key : ∀ (l acc : List Cell), (l.foldl adc acc).length ≤ acc.length + l.length := by
    intro l
    induction l with
    | nil => intro acc; simp
    | cons a l ih =>
      intro acc
      have := ih (adc acc a)
      rw [List.foldl_cons]
      have h2 : (adc acc a).length ≤ acc.length + 1 := by unfold adc; split <;> simp
      simp only [List.length_cons]; omega
  have := key l []
  simpa [ddl] using this
theorem cell_eq (a b : Cell) : ((a.x == b.x) && ((a.y == b.y) && true)) = decide (a = b) := by
  rw [Bool.eq_iff_iff, decide_eq_true_eq]
  obtain ⟨x, y⟩ := a
  obtain ⟨x', y'⟩ := b
  simp
theorem pt_eq (a b : Pt) : ((a.x == b.x) && ((a.y == b.y) && true)) = decide (a = b) := by
  rw [Bool.eq_iff_iff, decide_eq_true_eq]
  obtain ⟨x, y⟩ := a
  obtain ⟨x', y'⟩ := b
  simp
theorem last_get {l : List Cell} (h : l ≠ []) : l.getLast? = some (l[l.length - 1]'(by have := List.length_pos_iff.2 h; omega)) := by
  rw [List.getLast?_eq_getElem?, List.getElem?_eq_getElem (by have := List.length_pos_iff.2 h; omega)]
theorem add_eq (l : List Cell) (hl : l.length ≤ 1099511627775) (c : Cell) : ringwalk_add l c = some (adc l c) := by
  refine Ret.eq ?_
  unfold ringwalk_add
  have hj : ringwalk_add_j1 l c = some (decide (l.getLast? = some c)) := by
    refine Ret.eq ?_
    unfold ringwalk_add_j1
    refine Ret.ifB (fun h => ?_) (fun h => ?_)
    · rw [decide_eq_true_eq] at h
      have hne : l ≠ [] := fun e => by subst e; simp at h
      refine Ret.chk (inR (by omega) (by omega)) (Ret.getI (k := l.length - 1) (by omega) (by omega) (Ret.mk ?_))
      rw [cell_eq, last_get hne]
      simp
    · rw [decide_eq_false_iff_not] at h
      have : l = [] := List.eq_nil_of_length_eq_zero (by omega)
      subst this
      exact Ret.mk rfl
  refine Ret.bindE hj (Ret.ifB (fun h => Ret.mk ?_) (fun h => Ret.chk (by simp only [List.length_cons, List.length_nil]; omega) (Ret.mk ?_)))
  · rw [decide_eq_true_eq] at h; unfold adc; rw [if_pos h]
  · rw [decide_eq_false_iff_not] at h; unfold adc; rw [if_neg h]
theorem trim_eq_p (l : List Cell) (hl : l.length ≤ 1099511627775) : ringwalk_walk_j5 l = some (trim l) := by
  refine Ret.eq ?_
  unfold ringwalk_walk_j5
  have hj : ringwalk_walk_j4 l = some (decide (1 < l.length ∧ l.head? = l.getLast?)) := by
    refine Ret.eq ?_
    unfold ringwalk_walk_j4
    refine Ret.ifB (fun h => ?_) (fun h => ?_)
    · rw [decide_eq_true_eq] at h
      have hne : l ≠ [] := fun e => by subst e; simp at h
      refine Ret.getI (k := 0) rfl (by omega) (Ret.chk (inR (by omega) (by omega)) (Ret.getI (k := l.length - 1) (by omega) (by omega) (Ret.mk ?_)))
      rw [cell_eq, last_get hne, List.head?_eq_getElem?, List.getElem?_eq_getElem (by omega)]
      rw [Bool.eq_iff_iff, decide_eq_true_eq, decide_eq_true_eq]
      constructor
      · exact fun e => ⟨by omega, by rw [e]⟩
      · exact fun e => Option.some.inj e.2
    · rw [decide_eq_false_iff_not] at h
      refine Ret.mk ?_
      rw [eq_comm, decide_eq_false_iff_not]
      omega
  refine Ret.bindE hj (Ret.ifB (fun h => ?_) (fun h => Ret.mk ?_))
  · rw [decide_eq_true_eq] at h
    refine Ret.chk (inR (by omega) (by omega)) (Ret.chk ⟨by omega, by omega⟩ (Ret.mk ?_))
    unfold trim
    rw [if_pos h, List.dropLast_eq_take, show ((l.length : Int) - 1).toNat = l.length - 1 by omega]
  · rw [decide_eq_false_iff_not] at h
    unfold trim; rw [if_neg h]
theorem trim_eq_r (l : List Cell) (hl : l.length ≤ 1099511627775) : R24_once_j5 l = some (trim l) := by
  have := trim_eq_p l hl
  unfold ringwalk_walk_j5 ringwalk_walk_j4 at this
  unfold R24_once_j5 R24_once_j4
  exact this
theorem once_eq (l : List Cell) (hl : l.length ≤ 1000000000) : R24_once l = some (trim (ddl l)) := by
  refine Ret.eq ?_
  unfold R24_once
  refine Ret.bind (Q' := (· = ddl l)) ?_ (fun o ho => ?_)
  · refine Ret.loop (I := fun s : List Cell × Int => ∃ k : Nat, s.2 = k ∧ k ≤ l.length ∧ s.1 = ddl (l.take k)) (μ := fun s : List Cell × Int => l.length - s.2.toNat) (fun s hs => ?_) ⟨0, rfl, Nat.zero_le _, by simp [ddl]⟩
    obtain ⟨out, t⟩ := s
    obtain ⟨k, rfl, hk, hI⟩ := hs
    simp only at hI
    subst hI
    unfold R24_once_l3
    have hdl := ddl_len (l.take k)
    rw [List.length_take] at hdl
    refine Ret.ifB (fun hlt => ?_) (fun hge => ?_)
    · rw [decide_eq_true_eq] at hlt
      have hk' : k < l.length := by omega
      have hj : R24_once_j2 (ddl (l.take k)) l k = some (ddl (l.take (k + 1))) := by
        refine Ret.eq ?_
        rw [List.take_succ_eq_append_getElem hk', ddl_snoc]
        generalize ddl (l.take k) = o at hdl
        have hj1 : R24_once_j1 o l k = some (!(decide (o.getLast? = some l[k]))) := by
          refine Ret.eq ?_
          unfold R24_once_j1
          refine Ret.ifB (fun h => ?_) (fun h => ?_)
          · rw [beq_iff_eq] at h
            have : o = [] := List.eq_nil_of_length_eq_zero (by omega)
            subst this
            exact Ret.mk rfl
          · have hne : o ≠ [] := fun e => by subst e; simp at h
            have hpos := List.length_pos_iff.2 hne
            refine Ret.chk (inR (by omega) (by omega)) (Ret.getI (k := o.length - 1) (by omega) (by omega) (Ret.getI rfl hk' (Ret.mk ?_)))
            rw [cell_eq, last_get hne]
            simp
        unfold R24_once_j2
        refine Ret.bindE hj1 (Ret.ifB (fun h => ?_) (fun h => Ret.mk ?_))
        · rw [Bool.not_eq_true', decide_eq_false_iff_not] at h
          refine Ret.getI rfl hk' (Ret.chk (by simp only [List.length_cons, List.length_nil]; omega) (Ret.mk ?_))
          unfold adc; rw [if_neg h]
        · rw [Bool.not_eq_false', decide_eq_true_eq] at h
          unfold adc; rw [if_pos h]
      exact Ret.bindE hj (Ret.chk (inR (by omega) (by omega)) (Ret.mk ⟨⟨k + 1, by simp, by omega, rfl⟩, by simp only; omega⟩))
    · rw [decide_eq_false_iff_not] at hge
      have : k = l.length := by omega
      subst this
      rw [List.take_length]; exact Ret.mk rfl
  · subst ho
    have := ddl_len l
    exact Ret.bindE (trim_eq_r _ (by omega)) (Ret.mk rfl)
end
end Go.AM
end
section
namespace Go.AM
open Go
noncomputable section
variable {S : Int → Int → Prop}
theorem way_eq (a : Pt) {h : Int} (hh : h = 0 ∨ h = 1 ∨ h = 2 ∨ h = 3) {t : Nat} (ht : 0 < t) : R24_way a ⟨a.x + t * (dv h).x, a.y + t * (dv h).y⟩ = some (dv h) := by
  refine Ret.eq ?_
  unfold R24_way
  rcases dv_cases hh with ⟨e, _⟩ | ⟨e, _⟩ | ⟨e, _⟩ | ⟨e, _⟩ <;> rw [e] <;> simp only
  · exact Ret.ifT (by rw [decide_eq_true_eq]; omega) (Ret.mk rfl)
  · exact Ret.ifF (by rw [decide_eq_false_iff_not]; omega) (Ret.ifF (by rw [decide_eq_false_iff_not]; omega) (Ret.ifT (by rw [decide_eq_true_eq]; omega) (Ret.mk rfl)))
  · exact Ret.ifF (by rw [decide_eq_false_iff_not]; omega) (Ret.ifT (by rw [decide_eq_true_eq]; omega) (Ret.mk rfl))
  · exact Ret.ifF (by rw [decide_eq_false_iff_not]; omega) (Ret.ifF (by rw [decide_eq_false_iff_not]; omega) (Ret.ifF (by rw [decide_eq_false_iff_not]; omega) (Ret.mk rfl)))
theorem sign_eq (n : Int) : ringwalk_sign n = some (if n > 0 then 1 else if n < 0 then -1 else 0) := by
  refine Ret.eq ?_
  unfold ringwalk_sign
  refine Ret.ifB (fun h => Ret.mk ?_) (fun h => Ret.ifB (fun h2 => Ret.mk ?_) (fun h2 => Ret.mk ?_))
  · rw [decide_eq_true_eq] at h; rw [if_pos h]
  · rw [decide_eq_false_iff_not] at h; rw [decide_eq_true_eq] at h2; rw [if_neg h, if_pos h2]
  · rw [decide_eq_false_iff_not] at h h2; rw [if_neg h, if_neg h2]
theorem direction_eq (a : Pt) {h : Int} (hh : h = 0 ∨ h = 1 ∨ h = 2 ∨ h = 3) {t : Nat} (ht : 0 < t) (hs : t ≤ 1000000000) : ringwalk_direction a ⟨a.x + t * (dv h).x, a.y + t * (dv h).y⟩ = some (dv h) := by
  refine Ret.eq ?_
  unfold ringwalk_direction
  rcases dv_cases hh with ⟨e, _⟩ | ⟨e, _⟩ | ⟨e, _⟩ | ⟨e, _⟩ <;> rw [e] <;> simp only
  · refine Ret.chk (inR (by omega) (by omega)) (Ret.bindE (sign_eq _) (Ret.chk (inR (by omega) (by omega)) (Ret.bindE (sign_eq _) (Ret.mk ?_))))
    rw [if_pos (by omega), if_neg (by omega), if_neg (by omega)]
  · refine Ret.chk (inR (by omega) (by omega)) (Ret.bindE (sign_eq _) (Ret.chk (inR (by omega) (by omega)) (Ret.bindE (sign_eq _) (Ret.mk ?_))))
    rw [if_neg (by omega), if_neg (by omega), if_pos (by omega)]
  · refine Ret.chk (inR (by omega) (by omega)) (Ret.bindE (sign_eq _) (Ret.chk (inR (by omega) (by omega)) (Ret.bindE (sign_eq _) (Ret.mk ?_))))
    rw [if_neg (by omega), if_pos (by omega), if_neg (by omega), if_neg (by omega)]
  · refine Ret.chk (inR (by omega) (by omega)) (Ret.bindE (sign_eq _) (Ret.chk (inR (by omega) (by omega)) (Ret.bindE (sign_eq _) (Ret.mk ?_))))
    rw [if_neg (by omega), if_neg (by omega), if_neg (by omega), if_pos (by omega)]
theorem rleft_eq {d : Cr} (hh : d.h = 0 ∨ d.h = 1 ∨ d.h = 2 ∨ d.h = 3) (hp : InSq d.p) : R24_left d.p (dv d.h) = some (lcell d) := by
  obtain ⟨⟨x, y⟩, h⟩ := d
  unfold InSq at hp
  simp only at hh hp
  refine Ret.eq ?_
  unfold R24_left lcell
  rcases hh with rfl | rfl | rfl | rfl <;> simp only [dv]
  · exact Ret.ifT rfl (Ret.mk rfl)
  · exact Ret.ifF rfl (Ret.ifT rfl (Ret.chk (inR (by omega) (by omega)) (Ret.mk rfl)))
  · exact Ret.ifF rfl (Ret.ifF rfl (Ret.ifT rfl (Ret.chk (inR (by omega) (by omega)) (Ret.chk (inR (by omega) (by omega)) (Ret.mk rfl)))))
  · exact Ret.ifF rfl (Ret.ifF rfl (Ret.ifF rfl (Ret.chk (inR (by omega) (by omega)) (Ret.mk rfl))))
theorem pleft_eq {d : Cr} (hh : d.h = 0 ∨ d.h = 1 ∨ d.h = 2 ∨ d.h = 3) (hp : InSq d.p) : ringwalk_left d.p (dv d.h) = some (lcell d) := by
  obtain ⟨⟨x, y⟩, h⟩ := d
  unfold InSq at hp
  simp only at hh hp
  refine Ret.eq ?_
  unfold ringwalk_left lcell
  rcases hh with rfl | rfl | rfl | rfl <;> simp only [dv]
  · exact Ret.ifT rfl (Ret.mk rfl)
  · exact Ret.ifF rfl (Ret.ifT rfl (Ret.chk (inR (by omega) (by omega)) (Ret.mk rfl)))
  · exact Ret.ifF rfl (Ret.ifF rfl (Ret.ifT rfl (Ret.chk (inR (by omega) (by omega)) (Ret.chk (inR (by omega) (by omega)) (Ret.mk rfl)))))
  · exact Ret.ifF rfl (Ret.ifF rfl (Ret.ifF rfl (Ret.chk (inR (by omega) (by omega)) (Ret.mk rfl))))
theorem cross_eq {h k : Int} (hh : h = 0 ∨ h = 1 ∨ h = 2 ∨ h = 3) (hk : k = 0 ∨ k = 1 ∨ k = 2 ∨ k = 3) : InR .i64 ((dv h).x * (dv k).y) ∧ InR .i64 ((dv h).y * (dv k).x) ∧ InR .i64 ((dv h).x * (dv k).y - (dv h).y * (dv k).x) ∧ decide ((dv h).x * (dv k).y - (dv h).y * (dv k).x < 0) = decide (k = rt h) := by
  rcases hh with rfl | rfl | rfl | rfl <;> rcases hk with rfl | rfl | rfl | rfl <;> (refine ⟨?_, ?_, ?_, ?_⟩ <;> decide)
def lcells (S : Int → Int → Prop) (c : Cr) (i t : Nat) : List Cell := (List.range t).map fun m => lcell (it S (i + m) c)
theorem lcells_succ (c : Cr) (i t : Nat) : lcells S c i (t + 1) = lcells S c i t ++ [lcell (it S (i + t) c)] := by unfold lcells; rw [List.range_succ, List.map_append]; rfl
theorem rt_ne {h : Int} (hh : h = 0 ∨ h = 1 ∨ h = 2 ∨ h = 3) : h ≠ rt h := by rcases hh with rfl | rfl | rfl | rfl <;> decide
theorem vis_len (d : Cr) : (vis S d).length ≤ 2 := by unfold vis rtc; split <;> simp
theorem upTo_len (c : Cr) : ∀ i, (upTo S c i).length ≤ 2 * i
  | 0 => by simp [upTo]
  | i + 1 => by rw [upTo_succ, List.length_append]; have := upTo_len c i; have := vis_len (S := S) (it S i c); omega
section
variable {c : Cr} {n : Nat}
/-- Along an edge. -/
theorem upTo_edge (hc : isCr S c) {j : Nat} (hj : j < (cidx S c n).length) : ∀ t, pl S c n j + t < pl S c n (j + 1) → upTo S c (pl S c n j + t) = upTo S c (pl S c n j) ++ lcells S c (pl S c n j) t := by
  intro t
  induction t with
  | zero => intro _; simp [lcells]
  | succ t ih =>
    intro h
    rw [← Nat.add_assoc, upTo_succ, ih (by omega), lcells_succ, List.append_assoc]
    congr 1
    congr 1
    unfold vis rtc
    rw [if_neg]
    intro e
    have h1 := pl_straight hj (pl S c n j + t) (by omega) (by omega)
    have h2 := pl_straight hj (pl S c n j + t + 1) (by omega) (by omega)
    have h3 : (nxt S (it S (pl S c n j + t) c)).h = (it S (pl S c n j) c).h := h2
    rw [h3, h1] at e
    exact rt_ne (isC_h (it_isCr hc (pl S c n j))) e
/-- The last crack of edge j. -/
def lastOf (S : Int → Int → Prop) (c : Cr) (n j : Nat) : Cr := it S (pl S c n (j + 1) - 1) c
theorem upTo_edge_end (hc : isCr S c) {j : Nat} (hj : j < (cidx S c n).length) : upTo S c (pl S c n (j + 1)) = upTo S c (pl S c n j) ++ lcells S c (pl S c n j) (pl S c n (j + 1) - pl S c n j) ++ rtc S (lastOf S c n j) := by
  have hm := pl_mono hj
  obtain ⟨q, hq⟩ : ∃ q, pl S c n (j + 1) = pl S c n j + q + 1 := ⟨pl S c n (j + 1) - pl S c n j - 1, by omega⟩
  have h1 := upTo_edge hc hj q (by omega)
  unfold lastOf
  rw [hq, upTo_succ, h1, show pl S c n j + q + 1 - pl S c n j = q + 1 by omega, lcells_succ, show pl S c n j + q + 1 - 1 = pl S c n j + q by omega]
  unfold vis
  simp only [List.append_assoc, List.cons_append, List.nil_append]
structure Edge (S : Int → Int → Prop) (c : Cr) (n j : Nat) (h : Int) : Prop where
  hh : h = 0 ∨ h = 1 ∨ h = 2 ∨ h = 3
  e : (it S (pl S c n j) c).h = h
theorem edge_dir (hc : isCr S c) (hn : Per S c n) (hf : n ≤ 268500996) {j : Nat} (hj : j ≤ (cidx S c n).length) :
    ∃ p q, (corners S c n)[j % (corners S c n).length]? = some p ∧ (corners S c n)[(j + 1) % (corners S c n).length]? = some q ∧ R24_way p q = some (dv (it S (pl S c n j) c).h) ∧ ringwalk_direction p q = some (dv (it S (pl S c n j) c).h) ∧ p = (it S (pl S c n j) c).p := by
  have hlen : (corners S c n).length = (cidx S c n).length := by rw [corners_idx c hn.pos, List.length_map]
  have h2 := cidx_two hc hn
  have key : ∀ i, i < (cidx S c n).length → ∃ p q, (corners S c n)[i % (corners S c n).length]? = some p ∧ (corners S c n)[(i + 1) % (corners S c n).length]? = some q ∧ R24_way p q = some (dv (it S (pl S c n i) c).h) ∧ ringwalk_direction p q = some (dv (it S (pl S c n i) c).h) ∧ p = (it S (pl S c n i) c).p := fun i hi => by
    have hm := pl_mono hi
    have hp := pl_point hi (pl S c n (i + 1) - pl S c n i) (by omega)
    rw [show pl S c n i + (pl S c n (i + 1) - pl S c n i) = pl S c n (i + 1) by omega] at hp
    have hle : pl S c n (i + 1) ≤ n := by
      rcases Nat.lt_or_ge (i + 1) (cidx S c n).length with h | h
      · exact Nat.le_of_lt (pl_lt h)
      · rw [pl_end h]; exact Nat.le_refl _
    refine ⟨_, _, corner_get hn (Nat.le_of_lt hi), corner_get hn hi, ?_, ?_, rfl⟩
    · rw [hp]; exact way_eq _ (isC_h (it_isCr hc _)) (by omega)
    · rw [hp]; exact direction_eq _ (isC_h (it_isCr hc _)) (by omega) (by omega)
  rcases Nat.lt_or_ge j (cidx S c n).length with h | h
  · exact key j h
  · have e : j = (cidx S c n).length := by omega
    obtain ⟨p, q, k1, k2, k3, k4, k5⟩ := key 0 (by omega)
    have h0 := (pl_zero (S := S) (c := c) hn.pos).1
    rw [h0] at k3 k4 k5
    refine ⟨p, q, ?_, ?_, ?_, ?_, ?_⟩
    · rw [e, hlen, Nat.mod_self]; rw [hlen, Nat.zero_mod] at k1; exact k1
    · rw [e, hlen, Nat.add_mod_left]; rw [hlen, Nat.zero_add] at k2; exact k2
    · rw [e, pl_end (Nat.le_refl _), hn.back]; exact k3
    · rw [e, pl_end (Nat.le_refl _), hn.back]; exact k4
    · rw [e, pl_end (Nat.le_refl _), hn.back]; exact k5
theorem edge_ne {j : Nat} (hc : isCr S c) (hj : j < (cidx S c n).length) {t : Nat} (ht : pl S c n j + t < pl S c n (j + 1)) : (it S (pl S c n j + t) c).p ≠ (it S (pl S c n (j + 1)) c).p := fun e => by
  have h1 := pl_point hj t (by omega)
  have h2 := pl_point hj (pl S c n (j + 1) - pl S c n j) (by omega)
  rw [show pl S c n j + (pl S c n (j + 1) - pl S c n j) = pl S c n (j + 1) by omega] at h2
  rw [h1, h2] at e
  simp only [Pt.mk.injEq] at e
  rcases dv_cases (isC_h (it_isCr hc (pl S c n j))) with ⟨q, _⟩ | ⟨q, _⟩ | ⟨q, _⟩ | ⟨q, _⟩ <;> (rw [q] at e; simp only at e; omega)
theorem edge_step (_hc : isCr S c) {j : Nat} (hj : j < (cidx S c n).length) {t : Nat} (ht : pl S c n j + t < pl S c n (j + 1)) : (it S (pl S c n j + t) c).h = (it S (pl S c n j) c).h ∧ (it S (pl S c n j + (t + 1)) c).p = ⟨(it S (pl S c n j + t) c).p.x + (dv (it S (pl S c n j) c).h).x, (it S (pl S c n j + t) c).p.y + (dv (it S (pl S c n j) c).h).y⟩ := by
  have h := pl_straight hj (pl S c n j + t) (by omega) ht
  refine ⟨h, ?_⟩
  show (nxt S (it S (pl S c n j + t) c)).p = _
  rw [nxt_p, stp_dv, h]
theorem lastOf_eq (hc : isCr S c) {j : Nat} (hj : j < (cidx S c n).length) : (lastOf S c n j).h = (it S (pl S c n j) c).h ∧ nxt S (lastOf S c n j) = it S (pl S c n (j + 1)) c ∧ isCr S (lastOf S c n j) := by
  have hm := pl_mono hj
  unfold lastOf
  refine ⟨pl_straight hj _ (by omega) (by omega), ?_, it_isCr hc _⟩
  obtain ⟨q, hq⟩ : ∃ q, pl S c n (j + 1) = q + 1 := ⟨pl S c n (j + 1) - 1, by omega⟩
  rw [hq]; rfl
theorem dv_small {h : Int} (hh : h = 0 ∨ h = 1 ∨ h = 2 ∨ h = 3) : -1 ≤ (dv h).x ∧ (dv h).x ≤ 1 ∧ -1 ≤ (dv h).y ∧ (dv h).y ≤ 1 := by rcases hh with rfl | rfl | rfl | rfl <;> decide
theorem lcell_near {d : Cr} (hp : InSq d.p) : -4097 ≤ (lcell d).x ∧ (lcell d).x ≤ 4096 ∧ -4097 ≤ (lcell d).y ∧ (lcell d).y ≤ 4096 := by
  unfold InSq at hp
  unfold lcell
  split
  · simp only; omega
  · split
    · simp only; omega
    · split <;> (simp only; omega)
theorem loop_eq (hq : Sq S) (hc : isCr S c) (hn : Per S c n) : R24_loop (corners S c n) = some (upTo S c n) := by
  have hf := Per.few hq hc hn
  have hlen : (corners S c n).length = (cidx S c n).length := by rw [corners_idx c hn.pos, List.length_map]
  have hk2 := cidx_two hc hn
  have hkn : (cidx S c n).length ≤ n := by unfold cidx; have := List.length_filter_le (fun i => decide (i = 0 ∨ (it S i c).h ≠ (it S (i - 1) c).h)) (List.range n); simpa using this
  refine Ret.eq ?_
  unfold R24_loop
  refine Ret.bind (Q' := (· = upTo S c n)) ?_ fun l h => Ret.mk h
  refine Ret.loop (I := fun s : List Cell × Int => ∃ j : Nat, s.2 = j ∧ j ≤ (cidx S c n).length ∧ s.1 = upTo S c (pl S c n j)) (μ := fun s : List Cell × Int => (cidx S c n).length - s.2.toNat) (fun s hs => ?_) ⟨0, rfl, Nat.zero_le _, by rw [(pl_zero (S := S) (c := c) hn.pos).1]; rfl⟩
  obtain ⟨acc, t⟩ := s
  obtain ⟨j, rfl, hj, hI⟩ := hs
  simp only at hI
  subst hI
  unfold R24_loop_l3
  rw [hlen]
  refine Ret.ifB (fun hlt => ?_) (fun hge => ?_)
  · rw [decide_eq_true_eq] at hlt
    have hj' : j < (cidx S c n).length := by omega
    obtain ⟨p, q, e1, e2, e3, _, e5⟩ := edge_dir hc hn hf (Nat.le_of_lt hj')
    obtain ⟨p', r, f1, f2, f3, _, f5⟩ := edge_dir hc hn hf hj'
    rw [f1] at e2
    injection e2 with e2; subst e2
    have hm := pl_mono hj'
    have hpl : pl S c n (j + 1) ≤ n := by
      rcases Nat.lt_or_ge (j + 1) (cidx S c n).length with h | h
      · exact Nat.le_of_lt (pl_lt h)
      · rw [pl_end h]; exact Nat.le_refl _
    have hul := upTo_len (S := S) c (pl S c n j)
    have hh := isC_h (it_isCr hc (pl S c n j))
    have hh' := isC_h (it_isCr hc (pl S c n (j + 1)))
    have hds := dv_small hh
    have hL := lastOf_eq hc hj'
    refine Ret.bind (Q' := (· = upTo S c (pl S c n (j + 1)))) ?_ (fun l hl => ?_)
    · unfold R24_loop_j2
      rw [hlen] at e1 f1 f2 ⊢
      rw [Nat.mod_eq_of_lt hj'] at e1
      have tm1 : ((j : Int) + 1).tmod ((cidx S c n).length : Int) = (((j + 1) % (cidx S c n).length : Nat) : Int) := by rw [Int.tmod_eq_emod_of_nonneg (by omega)]; rfl
      have tm2 : ((j : Int) + 2).tmod ((cidx S c n).length : Int) = (((j + 1 + 1) % (cidx S c n).length : Nat) : Int) := by rw [Int.tmod_eq_emod_of_nonneg (by omega)]; rfl
      rw [tm1, tm2]
      refine Ret.bindE (getI_some rfl e1) (Ret.chk (inR (by omega) (by omega)) (Ret.chk (by omega) (Ret.bindE (getI_some rfl f1) (Ret.chk (inR (by omega) (by omega)) (Ret.bindE (getI_some rfl f2) (Ret.bindE e3 (Ret.bindE f3 ?_)))))))
      subst e5; subst f5
      -- along the edge
      refine Ret.bind (Q' := fun o => o.1 = upTo S c (pl S c n j) ++ lcells S c (pl S c n j) (pl S c n (j + 1) - pl S c n j) ∧ o.2.1 = (lcell (lastOf S c n j)).x ∧ o.2.2 = (lcell (lastOf S c n j)).y) ?_ (fun o ho => ?_)
      · refine Ret.loopN (I := fun (m : Nat) (s : List Cell × Int × Int × Int × Int) => ∃ t, pl S c n j + t + m = pl S c n (j + 1) ∧ s.1 = upTo S c (pl S c n j) ++ lcells S c (pl S c n j) t ∧ s.2.1 = (it S (pl S c n j + t) c).p.x ∧ s.2.2.1 = (it S (pl S c n j + t) c).p.y ∧ (0 < t → s.2.2.2.1 = (lcell (it S (pl S c n j + t - 1) c)).x ∧ s.2.2.2.2 = (lcell (it S (pl S c n j + t - 1) c)).y))
          (fun m s hs => ?_) (pl S c n (j + 1) - pl S c n j) ⟨0, by omega, by simp [lcells], rfl, rfl, fun h => absurd h (Nat.lt_irrefl 0)⟩
        obtain ⟨l, px, py, cx, cy⟩ := s
        obtain ⟨t, hmt, rfl, rfl, rfl, hcl⟩ := hs
        simp only at hcl
        unfold R24_loop_l1
        simp only
        rw [pt_eq (it S (pl S c n j + t) c).p (it S (pl S c n (j + 1)) c).p]
        refine Ret.ifB (fun h => ?_) (fun h => ?_)
        · rw [Bool.not_eq_true', decide_eq_false_iff_not] at h
          have htl : pl S c n j + t < pl S c n (j + 1) := by
            refine Classical.byContradiction fun hge => h ?_
            rw [show pl S c n j + t = pl S c n (j + 1) by omega]
          have hst := edge_step hc hj' htl
          have hsq := hq.pt (it_isCr hc (pl S c n j + t))
          have hlft := rleft_eq (isC_h (it_isCr hc (pl S c n j + t))) hsq
          rw [hst.1] at hlft
          unfold InSq at hsq
          refine Ret.bindE hlft (Ret.chk ?_ (Ret.chk (inR (by omega) (by omega)) (Ret.chk (inR (by omega) (by omega)) (Ret.mk ⟨m - 1, by omega, t + 1, by omega, ?_, ?_, ?_, fun _ => ?_⟩))))
          · have : (lcells S c (pl S c n j) t).length = t := by simp [lcells]
            simp only [List.length_append, List.length_cons, List.length_nil]; omega
          · simp only; rw [lcells_succ, List.append_assoc]
          · simp only; rw [hst.2]
          · simp only; rw [hst.2]
          · simp only; rw [show pl S c n j + (t + 1) - 1 = pl S c n j + t by omega]; exact ⟨rfl, rfl⟩
        · rw [Bool.not_eq_false', decide_eq_true_eq] at h
          have htl : pl S c n j + t = pl S c n (j + 1) := by
            refine Classical.byContradiction fun hne => edge_ne hc hj' (t := t) (by omega) h
          have hcl' := hcl (by omega)
          refine Ret.mk ⟨by rw [show pl S c n (j + 1) - pl S c n j = t by omega], ?_, ?_⟩
          · unfold lastOf; rw [← htl]; exact hcl'.1
          · unfold lastOf; rw [← htl]; exact hcl'.2
      · obtain ⟨l, cx, cy⟩ := o
        obtain ⟨rfl, rfl, rfl⟩ := ho
        obtain ⟨x1, x2, x3, x4⟩ := cross_eq hh hh'
        refine Ret.chk x1 (Ret.chk x2 (Ret.chk x3 ?_))
        rw [x4]
        have hln := lcell_near (hq.pt hL.2.2)
        have hl1 : (lcells S c (pl S c n j) (pl S c n (j + 1) - pl S c n j)).length ≤ n := by simp [lcells]; omega
        refine Ret.ifB (fun h => ?_) (fun h => Ret.mk ?_)
        · rw [decide_eq_true_eq] at h
          refine Ret.chk (inR (by omega) (by omega)) (Ret.chk (inR (by omega) (by omega)) (Ret.chk (by simp only [List.length_append, List.length_cons, List.length_nil]; omega) (Ret.mk ?_)))
          rw [upTo_edge_end hc hj']
          congr 1
          unfold rtc
          rw [hL.2.1, hL.1, if_pos h]
        · rw [decide_eq_false_iff_not] at h
          rw [upTo_edge_end hc hj']
          unfold rtc
          rw [hL.2.1, hL.1, if_neg h, List.append_nil]
    · subst hl
      exact Ret.chk (inR (by omega) (by omega)) (Ret.mk ⟨⟨j + 1, by simp, by omega, rfl⟩, by simp only; omega⟩)
  · rw [decide_eq_false_iff_not] at hge
    have : j = (cidx S c n).length := by omega
    subst this
    rw [pl_end (Nat.le_refl _)]
    exact Ret.mk rfl
theorem ddl_app (l : List Cell) (c : Cell) : adc (ddl l) c = ddl (l ++ [c]) := (ddl_snoc l c).symm
theorem pwalk_eq (hq : Sq S) (hc : isCr S c) (hn : Per S c n) : ringwalk_walk (corners S c n) = some (trim (ddl (upTo S c n))) := by
  have hf := Per.few hq hc hn
  have hlen : (corners S c n).length = (cidx S c n).length := by rw [corners_idx c hn.pos, List.length_map]
  have hk2 := cidx_two hc hn
  have hkn : (cidx S c n).length ≤ n := by unfold cidx; have := List.length_filter_le (fun i => decide (i = 0 ∨ (it S i c).h ≠ (it S (i - 1) c).h)) (List.range n); simpa using this
  have hp0 := (pl_zero (S := S) (c := c) hn.pos).1
  refine Ret.eq ?_
  unfold ringwalk_walk
  obtain ⟨p, q, e1, e2, _, e4, e5⟩ := edge_dir hc hn hf (j := 0) (by omega)
  rw [hlen, Nat.mod_eq_of_lt (by omega)] at e1 e2
  refine Ret.bindE (getI_some (k := 0) rfl e1) (Ret.bindE (getI_some (k := 1) rfl e2) (Ret.bindE e4 ?_))
  subst e5
  refine Ret.bind (Q' := (· = ddl (upTo S c n))) ?_ (fun l hl => ?_)
  · refine Ret.loopN (I := fun (m : Nat) (s : List Cell × Int × Int × Int × Int × Int) => ∃ j : Nat, m + j = (cidx S c n).length ∧ j < (cidx S c n).length ∧ s.1 = ddl (upTo S c (pl S c n j)) ∧ s.2.1 = j ∧ s.2.2.1 = (it S (pl S c n j) c).p.x ∧ s.2.2.2.1 = (it S (pl S c n j) c).p.y ∧ s.2.2.2.2.1 = (dv (it S (pl S c n j) c).h).x ∧ s.2.2.2.2.2 = (dv (it S (pl S c n j) c).h).y)
      (fun m s hs => ?_) (cidx S c n).length ⟨0, by omega, by omega, by rw [hp0]; rfl, rfl, rfl, rfl, rfl, rfl⟩
    obtain ⟨acc, t, px, py, dx, dy⟩ := s
    obtain ⟨j, hmj, hj', hI, rfl, rfl, rfl, rfl, rfl⟩ := hs
    simp only at hI
    subst hI
    unfold ringwalk_walk_l3
    have hm := pl_mono hj'
    have hpl : pl S c n (j + 1) ≤ n := by
      rcases Nat.lt_or_ge (j + 1) (cidx S c n).length with h | h
      · exact Nat.le_of_lt (pl_lt h)
      · rw [pl_end h]; exact Nat.le_refl _
    have hh := isC_h (it_isCr hc (pl S c n j))
    have hh' := isC_h (it_isCr hc (pl S c n (j + 1)))
    have hds := dv_small hh
    have hL := lastOf_eq hc hj'
    obtain ⟨p', r, f1, f2, _, f4, f5⟩ := edge_dir hc hn hf hj'
    rw [hlen] at f1 f2
    have tm1 : ((j : Int) + 1).tmod ((corners S c n).length : Int) = (((j + 1) % (cidx S c n).length : Nat) : Int) := by rw [hlen, Int.tmod_eq_emod_of_nonneg (by omega)]; rfl
    have tm2 : ((j : Int) + 1 + 1).tmod ((corners S c n).length : Int) = (((j + 1 + 1) % (cidx S c n).length : Nat) : Int) := by rw [hlen, Int.tmod_eq_emod_of_nonneg (by omega)]; rfl
    simp only
    -- along the edge
    refine Ret.bind (Q' := fun o => o.1 = ddl (upTo S c (pl S c n j) ++ lcells S c (pl S c n j) (pl S c n (j + 1) - pl S c n j)) ∧ o.2.1 = (it S (pl S c n (j + 1)) c).p.x ∧ o.2.2 = (it S (pl S c n (j + 1)) c).p.y) ?_ (fun o ho => ?_)
    · refine Ret.loopN (I := fun (m : Nat) (s : List Cell × Int × Int) => ∃ t, pl S c n j + t + m = pl S c n (j + 1) ∧ s.1 = ddl (upTo S c (pl S c n j) ++ lcells S c (pl S c n j) t) ∧ s.2.1 = (it S (pl S c n j + t) c).p.x ∧ s.2.2 = (it S (pl S c n j + t) c).p.y)
        (fun m s hs => ?_) (pl S c n (j + 1) - pl S c n j) ⟨0, by omega, by simp [lcells], rfl, rfl⟩
      obtain ⟨l, px, py⟩ := s
      obtain ⟨t, hmt, rfl, rfl, rfl⟩ := hs
      unfold ringwalk_walk_l1
      simp only
      rw [tm1]
      refine Ret.chk (inR (by omega) (by omega)) (Ret.chk (by omega) (Ret.bindE (getI_some rfl f1) ?_))
      rw [f5, pt_eq (it S (pl S c n j + t) c).p (it S (pl S c n (j + 1)) c).p]
      refine Ret.ifB (fun h => ?_) (fun h => ?_)
      · rw [Bool.not_eq_true', decide_eq_false_iff_not] at h
        have htl : pl S c n j + t < pl S c n (j + 1) := by
          refine Classical.byContradiction fun hge => h ?_
          rw [show pl S c n j + t = pl S c n (j + 1) by omega]
        have hst := edge_step hc hj' htl
        have hsq := hq.pt (it_isCr hc (pl S c n j + t))
        have hlft := pleft_eq (isC_h (it_isCr hc (pl S c n j + t))) hsq
        rw [hst.1] at hlft
        unfold InSq at hsq
        have hdl := ddl_len (upTo S c (pl S c n j) ++ lcells S c (pl S c n j) t)
        have hul := upTo_len (S := S) c (pl S c n j)
        have hll : (lcells S c (pl S c n j) t).length = t := by simp [lcells]
        rw [List.length_append] at hdl
        refine Ret.bindE hlft (Ret.bindE (add_eq _ (by omega) _) (Ret.chk (inR (by omega) (by omega)) (Ret.chk (inR (by omega) (by omega)) (Ret.mk ⟨m - 1, by omega, t + 1, by omega, ?_, ?_, ?_⟩))))
        · simp only; rw [lcells_succ, ← List.append_assoc, ddl_app]
        · simp only; rw [hst.2]
        · simp only; rw [hst.2]
      · rw [Bool.not_eq_false', decide_eq_true_eq] at h
        have htl : pl S c n j + t = pl S c n (j + 1) := by
          refine Classical.byContradiction fun hne => edge_ne hc hj' (t := t) (by omega) h
        refine Ret.mk ⟨by rw [show pl S c n (j + 1) - pl S c n j = t by omega], ?_, ?_⟩
        · rw [← htl]
        · rw [← htl]
    · obtain ⟨l, cx, cy⟩ := o
      obtain ⟨rfl, rfl, rfl⟩ := ho
      simp only
      rw [tm1, tm2]
      refine Ret.chk (inR (by omega) (by omega)) (Ret.chk (by omega) (Ret.bindE (getI_some rfl f1) (Ret.chk (inR (by omega) (by omega)) (Ret.bindE (getI_some rfl f2) (Ret.bindE f4 ?_)))))
      have hsq := hq.pt hL.2.2
      have hln := lcell_near hsq
      have hpp : (⟨(it S (pl S c n (j + 1)) c).p.x - (dv (it S (pl S c n j) c).h).x, (it S (pl S c n (j + 1)) c).p.y - (dv (it S (pl S c n j) c).h).y⟩ : Pt) = (lastOf S c n j).p := by
        have := nxt_p S (lastOf S c n j)
        rw [hL.2.1, hL.1, stp_dv] at this
        rw [this]
        simp
      refine Ret.bind (Q' := (· = ddl (upTo S c (pl S c n (j + 1))))) ?_ (fun l hl => ?_)
      · unfold ringwalk_walk_j2
        obtain ⟨x1, x2, x3, x4⟩ := cross_eq hh hh'
        refine Ret.chk x1 (Ret.chk x2 (Ret.chk x3 ?_))
        rw [x4]
        have hq1 := hq.pt (it_isCr hc (pl S c n (j + 1)))
        unfold InSq at hq1
        refine Ret.ifB (fun h => ?_) (fun h => Ret.mk ?_)
        · rw [decide_eq_true_eq] at h
          refine Ret.chk (inR (by omega) (by omega)) (Ret.chk (inR (by omega) (by omega)) ?_)
          rw [hpp]
          have hlft := pleft_eq (isC_h hL.2.2) hsq
          rw [hL.1] at hlft
          have hdl := ddl_len (upTo S c (pl S c n j) ++ lcells S c (pl S c n j) (pl S c n (j + 1) - pl S c n j))
          have hul := upTo_len (S := S) c (pl S c n j)
          have hll : (lcells S c (pl S c n j) (pl S c n (j + 1) - pl S c n j)).length = pl S c n (j + 1) - pl S c n j := by simp [lcells]
          rw [List.length_append] at hdl
          refine Ret.bindE hlft (Ret.chk (inR (by omega) (by omega)) (Ret.chk (inR (by omega) (by omega)) (Ret.bindE (add_eq _ (by omega) _) (Ret.mk ?_))))
          rw [ddl_app, upTo_edge_end hc hj']
          congr 2
          unfold rtc
          rw [hL.2.1, hL.1, if_pos h]
        · rw [decide_eq_false_iff_not] at h
          rw [upTo_edge_end hc hj']
          unfold rtc
          rw [hL.2.1, hL.1, if_neg h, List.append_nil]
      · subst hl
        rw [hlen]
        refine Ret.ifB (fun h => ?_) (fun h => ?_)
        · rw [beq_iff_eq] at h
          have e : j + 1 = (cidx S c n).length := by omega
          refine Ret.mk ?_
          rw [e, pl_end (Nat.le_refl _)]
        · have e : j + 1 < (cidx S c n).length := by
            have : ((j : Int) + 1) ≠ ((cidx S c n).length : Int) := fun q => by rw [q] at h; simp at h
            omega
          exact Ret.mk ⟨m - 1, by omega, j + 1, by omega, e, rfl, by simp, rfl, rfl, rfl, rfl⟩
  · subst hl
    have h1 := ddl_len (upTo S c n)
    have h2 := upTo_len (S := S) c n
    exact Ret.bindE (trim_eq_p _ (by omega)) (Ret.mk rfl)
end
end
end Go.AM
end
section
namespace Go.AM
open Go
noncomputable section
variable {S : Int → Int → Prop}
/-- The cells along a polygon. -/
def wk (P : Poly) : List Cell := (ringwalk_walk P.pts).getD []
def walksOf (ps : List Poly) : List Track := (ps.filter fun P => decide ((wk P).length ≤ 65536)).map fun P => ⟨1, true, wk P⟩
theorem wk_corners (hq : Sq S) {c : Cr} (hc : isCr S c) {n : Nat} (hn : Per S c n) : wk ⟨corners S c n⟩ = trim (ddl (upTo S c n)) := by unfold wk; rw [pwalk_eq hq hc hn]; rfl
theorem wk_p (hq : Sq S) {P : Poly} (h : IsPoly S P) : ringwalk_walk P.pts = some (wk P) := by
  obtain ⟨c, n, h1, h2, _, rfl⟩ := h
  rw [wk_corners hq h1 h2]; exact pwalk_eq hq h1 h2
theorem wk_r (hq : Sq S) {P : Poly} (h : IsPoly S P) : ∃ l, R24_loop P.pts = some l ∧ R24_once l = some (wk P) := by
  obtain ⟨c, n, h1, h2, _, rfl⟩ := h
  have hf := Per.few hq h1 h2
  have := upTo_len (S := S) c n
  exact ⟨_, loop_eq hq h1 h2, by rw [wk_corners hq h1 h2]; exact once_eq _ (by omega)⟩
theorem Traces.few (hq : Sq S) {ps : List Poly} (h : Traces S ps) : ps.length ≤ 67125249 := by
  have hnd : (ps.map hd).Nodup := by
    unfold List.Nodup
    rw [List.pairwise_map]
    exact h.sorted.imp fun h e => by rw [e] at h; exact ltPt_irrefl _ h
  have := nodup_sub_len hnd (m := grid) fun p hp => by
    rw [List.mem_map] at hp
    obtain ⟨P, hP, rfl⟩ := hp
    obtain ⟨c, n, h1, _, _, rfl⟩ := (h.mem P).1 hP
    rw [hd_corners]
    exact mem_grid (hq.pt h1)
  rwa [List.length_map, grid_len] at this
theorem walks_step {ps : List Poly} {k : Nat} (hk : k < ps.length) : walksOf (ps.take (k + 1)) = walksOf (ps.take k) ++ (if (wk ps[k]).length ≤ 65536 then [⟨1, true, wk ps[k]⟩] else []) := by
  unfold walksOf
  rw [List.take_succ_eq_append_getElem hk, List.filter_append, List.map_append]
  congr 1
  by_cases h : (wk ps[k]).length ≤ 65536
  · rw [if_pos h, List.filter_cons_of_pos (by simpa using h)]; rfl
  · rw [if_neg h, List.filter_cons_of_neg (by simpa using h)]; rfl
theorem walksOf_len (ps : List Poly) : (walksOf ps).length ≤ ps.length := by unfold walksOf; rw [List.length_map]; exact List.length_filter_le _ _
theorem Walk_of {r : Region} {ps : List Poly} (ht : boundary_Trace r = some ps) (hlen : ps.length ≤ 67125249) (hw : ∀ P ∈ ps, ringwalk_walk P.pts = some (wk P)) : ringwalk_Walk r = some (walksOf ps) := by
  refine Ret.eq ?_
  unfold ringwalk_Walk
  refine Ret.bindE ht (Ret.bind (Q' := (· = walksOf ps)) ?_ fun l h => Ret.mk h)
  refine Ret.loop (I := fun s : List Track × Int => ∃ k : Nat, s.2 = k ∧ k ≤ ps.length ∧ s.1 = walksOf (ps.take k)) (μ := fun s : List Track × Int => ps.length - s.2.toNat) (fun s hs => ?_) ⟨0, rfl, Nat.zero_le _, rfl⟩
  obtain ⟨acc, t⟩ := s
  obtain ⟨k, rfl, hk, hI⟩ := hs
  simp only at hI
  subst hI
  unfold ringwalk_Walk_l2
  refine Ret.ifB (fun hlt => ?_) (fun hge => ?_)
  · rw [decide_eq_true_eq] at hlt
    have hk' : k < ps.length := by omega
    have hl := walksOf_len (ps.take k)
    rw [List.length_take] at hl
    refine Ret.bind (Q' := (· = walksOf (ps.take (k + 1)))) ?_ (fun l h => ?_)
    · unfold ringwalk_Walk_j1
      refine Ret.getI rfl hk' (Ret.bindE (hw _ (List.getElem_mem hk')) ?_)
      rw [walks_step hk']
      refine Ret.ifB (fun h => ?_) (fun h => ?_)
      · rw [decide_eq_true_eq] at h
        rw [if_pos (by omega)]
        exact Ret.chk (by simp only [List.length_cons, List.length_nil]; omega) (Ret.mk rfl)
      · rw [decide_eq_false_iff_not] at h
        rw [if_neg (by omega), List.append_nil]; exact Ret.mk rfl
    · subst h
      exact Ret.chk (inR (by omega) (by omega)) (Ret.mk ⟨⟨k + 1, by simp, by omega, rfl⟩, by simp only; omega⟩)
  · rw [decide_eq_false_iff_not] at hge
    have : k = ps.length := by omega
    subst this
    rw [List.take_length]; exact Ret.mk rfl
theorem RWalk_of {r : Region} {ps : List Poly} (ht : R22_Trace r = some ps) (hlen : ps.length ≤ 67125249) (hw : ∀ P ∈ ps, ∃ l, R24_loop P.pts = some l ∧ R24_once l = some (wk P)) : R24_Walk r = some (walksOf ps) := by
  refine Ret.eq ?_
  unfold R24_Walk
  refine Ret.bindE ht (Ret.bind (Q' := (· = walksOf ps)) ?_ fun l h => Ret.mk h)
  refine Ret.loop (I := fun s : List Track × Int => ∃ k : Nat, s.2 = k ∧ k ≤ ps.length ∧ s.1 = walksOf (ps.take k)) (μ := fun s : List Track × Int => ps.length - s.2.toNat) (fun s hs => ?_) ⟨0, rfl, Nat.zero_le _, rfl⟩
  obtain ⟨acc, t⟩ := s
  obtain ⟨k, rfl, hk, hI⟩ := hs
  simp only at hI
  subst hI
  unfold R24_Walk_l2
  refine Ret.ifB (fun hlt => ?_) (fun hge => ?_)
  · rw [decide_eq_true_eq] at hlt
    have hk' : k < ps.length := by omega
    have hl := walksOf_len (ps.take k)
    rw [List.length_take] at hl
    refine Ret.bind (Q' := (· = walksOf (ps.take (k + 1)))) ?_ (fun l h => ?_)
    · unfold R24_Walk_j1
      obtain ⟨l, h1, h2⟩ := hw _ (List.getElem_mem hk')
      refine Ret.getI rfl hk' (Ret.bindE h1 (Ret.bindE h2 ?_))
      rw [walks_step hk']
      refine Ret.ifB (fun h => ?_) (fun h => ?_)
      · rw [decide_eq_true_eq] at h
        rw [if_pos (by omega)]
        exact Ret.chk (by simp only [List.length_cons, List.length_nil]; omega) (Ret.mk rfl)
      · rw [decide_eq_false_iff_not] at h
        rw [if_neg (by omega), List.append_nil]; exact Ret.mk rfl
    · subst h
      exact Ret.chk (inR (by omega) (by omega)) (Ret.mk ⟨⟨k + 1, by simp, by omega, rfl⟩, by simp only; omega⟩)
  · rw [decide_eq_false_iff_not] at hge
    have : k = ps.length := by omega
    subst this
    rw [List.take_length]; exact Ret.mk rfl
/-- Valid or not: one list of walks, for both. -/
theorem Walk_both (r : Region) (hr : r.Ok) : ∃ ps : List Poly, ps.length ≤ 67125249 ∧ boundary_Trace r = some ps ∧ ringwalk_Walk r = some (walksOf ps) ∧ R24_Walk r = some (walksOf ps) ∧ (VReg r → Traces (inG r) ps) ∧ (¬ VReg r → ps = []) := by
  by_cases hV : VReg r
  · have hq := sq_inG hV
    obtain ⟨ps, h1, h2⟩ := Trace_eq r hr hV
    obtain ⟨qs, h3, h4⟩ := RTrace_eq r hr hV
    have := h2.uniq h4
    subst this
    have hl := h2.few hq
    exact ⟨ps, hl, h1, Walk_of h1 hl fun P hP => wk_p hq ((h2.mem P).1 hP), RWalk_of h3 hl fun P hP => wk_r hq ((h2.mem P).1 hP), fun _ => h2, fun h => absurd hV h⟩
  · have hv : validB r = false := by
      cases h : validB r with
      | false => rfl
      | true => exact absurd (validB_iff.1 h) hV
    have h1 : boundary_Trace r = some [] := by
      refine Ret.eq ?_
      unfold boundary_Trace
      refine Ret.bindE (region_Valid_eq r hr) ?_
      rw [hv]; exact Ret.ifT rfl (Ret.mk rfl)
    have h2 : R22_Trace r = some [] := by
      refine Ret.eq ?_
      unfold R22_Trace
      refine Ret.bindE (R18_Valid_eq r hr) ?_
      rw [hv]; exact Ret.ifT rfl (Ret.mk rfl)
    exact ⟨[], by simp, h1, Walk_of h1 (by simp) (fun P hP => by cases hP), RWalk_of h2 (by simp) (fun P hP => by cases hP), fun h => absurd h hV, fun _ => rfl⟩
/-! ### SameAll -/
theorem Same_refl (t : Track) (h : t.cells.length ≤ 65536) : R23_Same t t = some true := by
  refine Ret.eq ?_
  unfold R23_Same
  have hj : R23_Same_j1 t t = some false := by
    refine Ret.eq ?_
    unfold R23_Same_j1
    exact Ret.ifF (by simp) (Ret.ifF (by simp) (Ret.mk (by simp)))
  refine Ret.bindE hj (Ret.ifF rfl ?_)
  refine Ret.bind (Q' := fun o => o = .inl ()) ?_ (fun o ho => by subst ho; exact Ret.mk rfl)
  refine Ret.loop (I := fun i : Int => ∃ k : Nat, i = k ∧ k ≤ t.cells.length) (μ := fun i : Int => t.cells.length - i.toNat) (fun i hi => ?_) ⟨0, rfl, Nat.zero_le _⟩
  obtain ⟨k, rfl, hk⟩ := hi
  unfold R23_Same_l2
  refine Ret.ifB (fun hlt => ?_) (fun hge => Ret.mk rfl)
  rw [decide_eq_true_eq] at hlt
  have hk' : k < t.cells.length := by omega
  exact Ret.getI rfl hk' (Ret.getI rfl hk' (Ret.ifF (by simp) (Ret.chk (inR (by omega) (by omega)) (Ret.mk ⟨⟨k + 1, by omega, by omega⟩, by omega⟩))))
theorem SameAll_refl (l : List Track) (hl : l.length ≤ 1000000000) (h : ∀ t ∈ l, t.cells.length ≤ 65536) : R23_SameAll l l = some true := by
  refine Ret.eq ?_
  unfold R23_SameAll
  refine Ret.ifF (by simp) ?_
  refine Ret.bind (Q' := fun o => o = .inl ()) ?_ (fun o ho => by subst ho; exact Ret.mk rfl)
  refine Ret.loop (I := fun i : Int => ∃ k : Nat, i = k ∧ k ≤ l.length) (μ := fun i : Int => l.length - i.toNat) (fun i hi => ?_) ⟨0, rfl, Nat.zero_le _⟩
  obtain ⟨k, rfl, hk⟩ := hi
  unfold R23_SameAll_l1
  refine Ret.ifB (fun hlt => ?_) (fun hge => Ret.mk rfl)
  rw [decide_eq_true_eq] at hlt
  have hk' : k < l.length := by omega
  exact Ret.getI rfl hk' (Ret.getI rfl hk' (Ret.bindE (Same_refl _ (h _ (List.getElem_mem hk'))) (Ret.ifF rfl (Ret.chk (inR (by omega) (by omega)) (Ret.mk ⟨⟨k + 1, by omega, by omega⟩, by omega⟩)))))
theorem walksOf_cells {ps : List Poly} : ∀ t ∈ walksOf ps, t.cells.length ≤ 65536 := fun t ht => by
  unfold walksOf at ht
  rw [List.mem_map] at ht
  obtain ⟨P, hP, rfl⟩ := ht
  rw [List.mem_filter] at hP
  simpa using hP.2
end
end Go.AM
end
