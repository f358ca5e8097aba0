/- The cells of a walk: each in the set, each beside the one ahead of it. -/
import Derived.Test.YtijdlphadhpabaaA3
import Derived.Test.YtijdlphadhpabaaA1
import Derived.Test.YtijdlphadhpabaaA9
import Derived.Test.YtijdlphadhpabaaA4
import Derived.Test.YtijdlphadhpabaaA2
import Derived.Test.YtijdlphadhpabaaA8
import Derived.Test.YtijdlphadhpabaaA6
import Derived.Test.YtijdlphadhpabaaA5
import Derived.Test.YtijdlphadhpabaaA7
import Derived.Test.YtijdlphadhpabaaP4
import Derived.Test.YtijdlphadhpabaaF9
import Derived.Test.YtijdlphadhpabaaF1
section
namespace Go.AM
open Go
noncomputable section
variable {S : Int → Int → Prop}
def Nb (a b : Cell) : Prop := (a.x = b.x ∧ (a.y = b.y + 1 ∨ a.y = b.y - 1)) ∨ (a.y = b.y ∧ (a.x = b.x + 1 ∨ a.x = b.x - 1))
def Stp1 (a b : Cell) : Prop := a = b ∨ Nb a b
def ahead (d : Cr) : Cell := ⟨(lcell d).x + (dv d.h).x, (lcell d).y + (dv d.h).y⟩
theorem nxt_three {d : Cr} (hd : isCr S d) : nxt S d = ⟨stp d.p d.h, lf d.h⟩ ∨ nxt S d = ⟨stp d.p d.h, d.h⟩ ∨ (nxt S d = ⟨stp d.p d.h, rt d.h⟩ ∧ S (ahead d).x (ahead d).y) := by
  by_cases h1 : isC S (stp d.p d.h) (lf d.h)
  · left; unfold nxt; exact if_pos h1
  · by_cases h2 : isC S (stp d.p d.h) d.h
    · right; left; unfold nxt; rw [if_neg h1, if_pos h2]
    · right; right
      refine ⟨by unfold nxt; rw [if_neg h1, if_neg h2], ?_⟩
      obtain ⟨⟨x, y⟩, h⟩ := d
      have hd' : isC S ⟨x, y⟩ h := hd
      rcases isC_h hd' with rfl | rfl | rfl | rfl
      · rw [isC0] at hd'
        simp only [stp, lf, if_true, isC1] at h1
        simp only at hd'
        rw [show x + 1 - 1 = x by omega] at h1
        have : S (x + 1) y := Classical.byContradiction fun h => h1 ⟨hd'.1, h⟩
        simpa [ahead, lcell, dv] using this
      · rw [isC1] at hd'
        simp only [stp, lf, show ¬ ((1 : Int) = 0) by decide, if_false, if_true, isC2] at h1
        simp only at hd'
        rw [show y + 1 - 1 = y by omega] at h1
        have : S (x - 1) (y + 1) := Classical.byContradiction fun h => h1 ⟨hd'.1, h⟩
        simpa [ahead, lcell, dv] using this
      · rw [isC2] at hd'
        simp only [stp, lf, show ¬ ((2 : Int) = 0) by decide, show ¬ ((2 : Int) = 1) by decide, if_false, if_true, isC3] at h1
        simp only at hd'
        have : S (x - 1 - 1) (y - 1) := Classical.byContradiction fun h => h1 ⟨hd'.1, h⟩
        simpa [ahead, lcell, dv, Int.sub_eq_add_neg] using this
      · rw [isC3] at hd'
        simp only [stp, lf, show ¬ ((3 : Int) = 0) by decide, show ¬ ((3 : Int) = 1) by decide, show ¬ ((3 : Int) = 2) by decide, if_false, isC0] at h1
        simp only at hd'
        have : S x (y - 1 - 1) := Classical.byContradiction fun h => h1 ⟨hd'.1, h⟩
        simpa [ahead, lcell, dv, Int.sub_eq_add_neg] using this
theorem vis_step {d : Cr} (hd : isCr S d) : (rtc S d = [] ∧ Stp1 (lcell d) (lcell (nxt S d))) ∨ (rtc S d = [ahead d] ∧ S (ahead d).x (ahead d).y ∧ Nb (lcell d) (ahead d) ∧ Nb (ahead d) (lcell (nxt S d))) := by
  rcases nxt_three hd with e | e | ⟨e, hs⟩
  · left
    unfold rtc
    rw [e]
    obtain ⟨⟨x, y⟩, h⟩ := d
    rcases isC_h (show isC S ⟨x, y⟩ h from hd) with rfl | rfl | rfl | rfl <;> simp [lcell, stp, lf, rt, Stp1, Nb]
  · left
    unfold rtc
    rw [e]
    obtain ⟨⟨x, y⟩, h⟩ := d
    rcases isC_h (show isC S ⟨x, y⟩ h from hd) with rfl | rfl | rfl | rfl <;> simp [lcell, stp, rt, Stp1, Nb] <;> omega
  · right
    refine ⟨by unfold rtc; rw [if_pos (by rw [e])]; rfl, hs, ?_, ?_⟩
    · obtain ⟨⟨x, y⟩, h⟩ := d
      rcases isC_h (show isC S ⟨x, y⟩ h from hd) with rfl | rfl | rfl | rfl <;> simp [lcell, ahead, dv, Nb] <;> omega
    · rw [e]
      obtain ⟨⟨x, y⟩, h⟩ := d
      rcases isC_h (show isC S ⟨x, y⟩ h from hd) with rfl | rfl | rfl | rfl <;> simp [lcell, ahead, stp, rt, dv, Nb] <;> omega
/-! ### Lists of cells, each beside the one ahead -/
def Good (l : List Cell) : Prop := ∀ (k : Nat) (a b : Cell), l[k]? = some a → l[k + 1]? = some b → Nb a b
theorem adc_good {l : List Cell} {e : Cell} (hg : Good l) (hs : ∀ z, l.getLast? = some z → Stp1 z e) : Good (adc l e) ∧ (adc l e).getLast? = some e ∧ (∀ a, l.head? = some a → (adc l e).head? = some a) ∧ ∀ x ∈ adc l e, x ∈ l ∨ x = e := by
  unfold adc
  by_cases h : l.getLast? = some e
  · rw [if_pos h]; exact ⟨hg, h, fun _ h => h, fun _ h => .inl h⟩
  · rw [if_neg h]
    refine ⟨fun k a b h1 h2 => ?_, by simp, fun a ha => by rw [List.head?_append, ha]; rfl, fun x hx => by simpa using hx⟩
    rcases Nat.lt_trichotomy (k + 1) l.length with hk | hk | hk
    · rw [List.getElem?_append_left (by omega)] at h1
      rw [List.getElem?_append_left hk] at h2
      exact hg k a b h1 h2
    · rw [List.getElem?_append_left (by omega)] at h1
      rw [List.getElem?_append_right (by omega), hk, Nat.sub_self] at h2
      obtain rfl := Option.some.inj h2
      have hl : l.getLast? = some a := by rw [List.getLast?_eq_getElem?, ← h1]; congr 1; omega
      rcases hs a hl with rfl | h3
      · exact absurd hl h
      · exact h3
    · rw [List.getElem?_eq_none (by rw [List.length_append, List.length_singleton]; omega)] at h2; cases h2
theorem ddl_append (l m : List Cell) : ddl (l ++ m) = m.foldl adc (ddl l) := by unfold ddl; rw [List.foldl_append]
theorem ddl_good {c : Cr} (hc : isCr S c) : ∀ i, Good (ddl (upTo S c i)) ∧ (∀ x ∈ ddl (upTo S c i), S x.x x.y) ∧ (i = 0 → ddl (upTo S c i) = []) ∧ (0 < i → (ddl (upTo S c i)).head? = some (lcell c) ∧ ∃ z, (ddl (upTo S c i)).getLast? = some z ∧ Stp1 z (lcell (it S i c)))
  | 0 => ⟨fun k a b h => by simp [upTo, ddl] at h, fun x hx => by simp [upTo, ddl] at hx, fun _ => rfl, fun h => by omega⟩
  | i + 1 => by
    obtain ⟨g1, g2, g3, g4⟩ := ddl_good hc i
    have hd := it_isCr hc i
    rw [upTo_succ, ddl_append]
    unfold vis
    rw [List.foldl_cons]
    generalize ddl (upTo S c i) = acc at g1 g2 g3 g4
    have hpre : ∀ z, acc.getLast? = some z → Stp1 z (lcell (it S i c)) := fun z hz => by
      rcases Nat.eq_zero_or_pos i with h0 | h0
      · rw [g3 h0] at hz; cases hz
      · obtain ⟨_, z', h1, h2⟩ := g4 h0
        rw [hz] at h1; obtain rfl := Option.some.inj h1
        exact h2
    obtain ⟨a1, a2, a3, a4⟩ := adc_good g1 hpre
    have hhead : (adc acc (lcell (it S i c))).head? = some (lcell c) := by
      rcases Nat.eq_zero_or_pos i with h0 | h0
      · rw [g3 h0]; subst h0; unfold adc; rw [if_neg (by simp)]; rfl
      · exact a3 _ (g4 h0).1
    have hS : ∀ x ∈ adc acc (lcell (it S i c)), S x.x x.y := fun x hx => by
      rcases a4 x hx with h | rfl
      · exact g2 x h
      · exact lcell_in hd
    generalize adc acc (lcell (it S i c)) = acc2 at a1 a2 hhead hS
    show _ ∧ _ ∧ _ ∧ (_ → _ ∧ ∃ z, _ ∧ Stp1 z (lcell (nxt S (it S i c))))
    rcases vis_step hd with ⟨e, h1⟩ | ⟨e, h1, h2, h3⟩
    · rw [e, List.foldl_nil]
      exact ⟨a1, hS, fun h => by omega, fun _ => ⟨hhead, _, a2, h1⟩⟩
    · rw [e, List.foldl_cons, List.foldl_nil]
      obtain ⟨b1, b2, b3, b4⟩ := adc_good a1 (e := ahead (it S i c)) fun z hz => by
        rw [a2] at hz; obtain rfl := Option.some.inj hz; exact .inr h2
      refine ⟨b1, fun x hx => ?_, fun h => by omega, fun _ => ⟨b3 _ hhead, _, b2, .inr h3⟩⟩
      rcases b4 x hx with h | rfl
      · exact hS x h
      · exact h1
structure Ring (S : Int → Int → Prop) (l : List Cell) : Prop where
  pos : 0 < l.length
  good : Good l
  mem : ∀ x ∈ l, S x.x x.y
  close : l.length = 1 ∨ ∃ a z, l.head? = some a ∧ l.getLast? = some z ∧ Nb z a
theorem trim_ring {c : Cr} (hc : isCr S c) {n : Nat} (hn : Per S c n) : Ring S (trim (ddl (upTo S c n))) := by
  obtain ⟨g1, g2, _, g4⟩ := ddl_good hc n
  obtain ⟨h1, z, h2, h3⟩ := g4 hn.pos
  rw [hn.back] at h3
  generalize ddl (upTo S c n) = l at g1 g2 h1 h2
  have hl : 0 < l.length := by
    cases l with
    | nil => cases h1
    | cons a l => simp
  unfold trim
  by_cases h : 1 < l.length ∧ l.head? = l.getLast?
  · rw [if_pos h]
    have hz : z = lcell c := by rw [h1, h2] at h; exact (Option.some.inj h.2).symm
    subst hz
    have h2' : l[l.length - 1]? = some (lcell c) := by rw [← List.getLast?_eq_getElem?]; exact h2
    have h1' : l[0]? = some (lcell c) := by rw [← List.head?_eq_getElem?]; exact h1
    have hne : l.length ≠ 2 := fun e => by
      rw [e] at h2'
      have := g1 0 _ _ h1' h2'
      unfold Nb at this; omega
    refine ⟨by rw [List.length_dropLast]; omega, fun k a b ha hb => ?_, fun x hx => g2 x ((List.dropLast_sublist l).subset hx), .inr ⟨lcell c, l[l.length - 2]'(by omega), ?_, ?_, ?_⟩⟩
    · rw [List.getElem?_dropLast] at ha hb
      split at ha
      · split at hb
        · exact g1 k a b ha hb
        · cases hb
      · cases ha
    · rw [List.head?_eq_getElem?, List.getElem?_dropLast, if_pos (by omega)]; exact h1'
    · rw [List.getLast?_eq_getElem?, List.getElem?_dropLast, List.length_dropLast, if_pos (by omega), List.getElem?_eq_getElem (by omega)]
      congr 2
    · refine g1 (l.length - 2) _ _ (List.getElem?_eq_getElem (by omega)) ?_
      rw [show l.length - 2 + 1 = l.length - 1 by omega]; exact h2'
  · rw [if_neg h]
    refine ⟨hl, g1, g2, ?_⟩
    rcases Nat.lt_or_ge 1 l.length with hlt | hge
    · right
      refine ⟨_, z, h1, h2, ?_⟩
      rcases h3 with rfl | h3
      · exact absurd ⟨hlt, by rw [h1, h2]⟩ h
      · exact h3
    · left; omega
/-! ### Such a track is valid -/
theorem neighbors_true {a b : Cell} (h : Nb a b) : track_neighbors a b = some true := by
  have key : ∀ u v : Int, a.x - b.x = u → a.y - b.y = v → ((u = 0 ∧ (v = 1 ∨ v = -1)) ∨ (v = 0 ∧ (u = 1 ∨ u = -1))) → track_neighbors a b = some true := by
    intro u v h1 h2 h3
    unfold track_neighbors
    rw [h1, h2]
    rcases h3 with ⟨rfl, rfl | rfl⟩ | ⟨rfl, rfl | rfl⟩ <;> decide
  unfold Nb at h
  exact key _ _ rfl rfl (by omega)
theorem onGrid_true {c : Cell} (h : -4096 ≤ c.x ∧ c.x < 4096 ∧ -4096 ≤ c.y ∧ c.y < 4096) : track_onGrid c = some true := by
  refine Ret.eq ?_
  unfold track_onGrid
  refine Ret.bindE (x := true) (Ret.eq ?_) (Ret.mk rfl)
  unfold track_onGrid_j1
  exact Ret.ifT (by simp; omega) (Ret.ifT (by simp; omega) (Ret.ifT (by simp; omega) (Ret.mk (by simp; omega))))
theorem track_valid (hq : Sq S) {l : List Cell} (h : Ring S l) (hl : l.length ≤ 65536) : track_Valid ⟨1, true, l⟩ = some true := by
  have hp := h.pos
  refine Ret.eq ?_
  unfold track_Valid
  refine Ret.bindE (x := false) (Ret.eq ?_) (Ret.ifF rfl ?_)
  · unfold track_Valid_j1
    exact Ret.ifF rfl (Ret.ifF rfl (Ret.ifF (by simp only [decide_eq_false_iff_not]; omega) (Ret.mk (by simp; omega))))
  refine Ret.bind (Q' := fun o => o = .inl ()) ?_ (fun o ho => ?_)
  · refine Ret.loop (I := fun i : Int => ∃ k : Nat, i = k ∧ k ≤ l.length) (μ := fun i : Int => l.length - i.toNat) (fun i hi => ?_) ⟨0, rfl, Nat.zero_le _⟩
    obtain ⟨k, rfl, hk⟩ := hi
    unfold track_Valid_l3
    refine Ret.ifB (fun hlt => ?_) (fun hge => Ret.mk rfl)
    rw [decide_eq_true_eq] at hlt
    have hk' : k < l.length := by simp only at hlt; omega
    refine Ret.getI rfl hk' (Ret.bindE (x := false) (Ret.eq ?_) (Ret.ifF rfl (Ret.chk (inR (by omega) (by omega)) (Ret.mk ⟨⟨k + 1, by omega, by omega⟩, by omega⟩))))
    unfold track_Valid_j2
    refine Ret.bindE (onGrid_true (hq _ _ (h.mem _ (List.getElem_mem hk')))) (Ret.ifF rfl (Ret.ifB (fun h0 => ?_) (fun h0 => Ret.mk rfl)))
    rw [decide_eq_true_eq] at h0
    refine Ret.chk (inR (by omega) (by omega)) (Ret.getI (k := k - 1) (by omega) (by simp only; omega) (Ret.bindE (neighbors_true ?_) (Ret.mk rfl)))
    refine h.good (k - 1) _ _ (List.getElem?_eq_getElem (by omega)) ?_
    rw [show k - 1 + 1 = k by omega]
    exact List.getElem?_eq_getElem hk'
  · subst ho
    refine Ret.bindE (x := true) (Ret.eq ?_) (Ret.mk rfl)
    unfold track_Valid_j4
    refine Ret.ifF rfl (Ret.ifB (fun h1 => Ret.mk rfl) (fun h1 => ?_))
    rw [beq_eq_false_iff_ne] at h1
    rcases h.close with h2 | ⟨a, z, h2, h3, h4⟩
    · exact absurd (by simp only; omega) h1
    · rw [List.head?_eq_getElem?] at h2
      rw [List.getLast?_eq_getElem?] at h3
      exact Ret.chk (inR (by simp only; omega) (by simp only; omega)) (Ret.bindE (getI_some (k := l.length - 1) (by simp only; omega) h3) (Ret.bindE (getI_some (k := 0) rfl h2) (Ret.bindE (neighbors_true h4) (Ret.mk rfl))))
end
end Go.AM
end
section
namespace Go.AM
open Go
noncomputable section
theorem nxt_l {S : Int → Int → Prop} {c : Cr} {q : Pt} {k : Int} (hq : stp c.p c.h = q) (hk : lf c.h = k) (h : isC S q k) : nxt S c = ⟨q, k⟩ := by
  subst hq; subst hk; unfold nxt; exact if_pos h
theorem nxt_s {S : Int → Int → Prop} {c : Cr} {q : Pt} {h : Int} (hq : stp c.p c.h = q) (hh : c.h = h) (hl : ¬ isC S q (lf c.h)) (hs : isC S q h) : nxt S c = ⟨q, h⟩ := by
  subst hq; subst hh; unfold nxt; rw [if_neg hl, if_pos hs]
/-- The cells of a rectangle. -/
def boxS (x y : Int) (w h : Nat) : Int → Int → Prop := fun a b => x ≤ a ∧ a < x + w ∧ y ≤ b ∧ b < y + h
/-- The cracks round it, in order. -/
def bpos (x y : Int) (w h : Nat) (i : Nat) : Cr :=
  if i < w then ⟨⟨x + i, y⟩, 0⟩ else if i < w + h then ⟨⟨x + w, y + (i - w : Nat)⟩, 1⟩ else if i < w + h + w then ⟨⟨x + w - (i - w - h : Nat), y + h⟩, 2⟩ else ⟨⟨x, y + h - (i - w - h - w : Nat)⟩, 3⟩
theorem bpos_h {x y : Int} {w h i : Nat} : (i < w ∧ bpos x y w h i = ⟨⟨x + i, y⟩, 0⟩) ∨ (w ≤ i ∧ i < w + h ∧ bpos x y w h i = ⟨⟨x + w, y + (i - w : Nat)⟩, 1⟩) ∨ (w + h ≤ i ∧ i < w + h + w ∧ bpos x y w h i = ⟨⟨x + w - (i - w - h : Nat), y + h⟩, 2⟩) ∨ (w + h + w ≤ i ∧ bpos x y w h i = ⟨⟨x, y + h - (i - w - h - w : Nat)⟩, 3⟩) := by
  unfold bpos
  by_cases h1 : i < w
  · left; exact ⟨h1, if_pos h1⟩
  · by_cases h2 : i < w + h
    · right; left; exact ⟨by omega, h2, by rw [if_neg h1, if_pos h2]⟩
    · by_cases h3 : i < w + h + w
      · right; right; left; exact ⟨by omega, h3, by rw [if_neg h1, if_neg h2, if_pos h3]⟩
      · right; right; right; exact ⟨by omega, by rw [if_neg h1, if_neg h2, if_neg h3]⟩
section
variable {x y : Int} {w h : Nat}
theorem bpos_isCr (hw : 0 < w) (hh : 0 < h) {i : Nat} (hi : i < 2 * (w + h)) : isCr (boxS x y w h) (bpos x y w h i) := by
  rcases bpos_h (x := x) (y := y) (w := w) (h := h) (i := i) with ⟨h1, e⟩ | ⟨h1, h2, e⟩ | ⟨h1, h2, e⟩ | ⟨h1, e⟩ <;> rw [e]
  · show isC _ _ 0; rw [isC0]; unfold boxS; simp only; omega
  · show isC _ _ 1; rw [isC1]; unfold boxS; simp only; omega
  · show isC _ _ 2; rw [isC2]; unfold boxS; simp only; omega
  · show isC _ _ 3; rw [isC3]; unfold boxS; simp only; omega
theorem bpos_next (hw : 0 < w) (hh : 0 < h) {i : Nat} (hi : i < 2 * (w + h)) : nxt (boxS x y w h) (bpos x y w h i) = if i + 1 = 2 * (w + h) then bpos x y w h 0 else bpos x y w h (i + 1) := by
  have h0 : bpos x y w h 0 = ⟨⟨x, y⟩, 0⟩ := by unfold bpos; rw [if_pos hw]; simp
  have hnext := bpos_h (x := x) (y := y) (w := w) (h := h) (i := i + 1)
  rcases bpos_h (x := x) (y := y) (w := w) (h := h) (i := i) with ⟨h1, e⟩ | ⟨h1, h2, e⟩ | ⟨h1, h2, e⟩ | ⟨h1, e⟩ <;> rw [e]
  · rw [if_neg (by omega)]
    rcases Nat.lt_or_ge (i + 1) w with hl | hl
    · rcases hnext with ⟨_, e⟩ | ⟨q, _⟩ | ⟨q, _⟩ | ⟨q, _⟩
      · rw [e]
        refine nxt_s (h := 0) (by unfold stp; simp; omega) rfl ?_ ?_
        · show ¬ isC _ _ 1
          rw [isC1]; unfold boxS; simp only; omega
        · rw [isC0]; unfold boxS; simp only; omega
      all_goals omega
    · rcases hnext with ⟨q, e⟩ | ⟨_, _, e⟩ | ⟨q, _⟩ | ⟨q, _⟩
      · omega
      · rw [e]
        refine nxt_l (by unfold stp; simp; omega) rfl ?_
        rw [isC1]; unfold boxS; simp only; omega
      all_goals omega
  · rw [if_neg (by omega)]
    rcases Nat.lt_or_ge (i + 1) (w + h) with hl | hl
    · rcases hnext with ⟨q, e⟩ | ⟨_, _, e⟩ | ⟨q, _⟩ | ⟨q, _⟩
      · omega
      · rw [e]
        refine nxt_s (h := 1) (by unfold stp; simp; omega) rfl ?_ ?_
        · show ¬ isC _ _ 2
          rw [isC2]; unfold boxS; simp only; omega
        · rw [isC1]; unfold boxS; simp only; omega
      all_goals omega
    · rcases hnext with ⟨q, e⟩ | ⟨_, q, _⟩ | ⟨_, _, e⟩ | ⟨q, _⟩
      · omega
      · omega
      · rw [e]
        refine nxt_l (by unfold stp; simp; omega) rfl ?_
        rw [isC2]; unfold boxS; simp only; omega
      · omega
  · rw [if_neg (by omega)]
    rcases Nat.lt_or_ge (i + 1) (w + h + w) with hl | hl
    · rcases hnext with ⟨q, e⟩ | ⟨_, q, _⟩ | ⟨_, _, e⟩ | ⟨q, _⟩
      · omega
      · omega
      · rw [e]
        refine nxt_s (h := 2) (by unfold stp; simp; omega) rfl ?_ ?_
        · show ¬ isC _ _ 3
          rw [isC3]; unfold boxS; simp only; omega
        · rw [isC2]; unfold boxS; simp only; omega
      · omega
    · rcases hnext with ⟨q, e⟩ | ⟨_, q, _⟩ | ⟨_, q, _⟩ | ⟨_, e⟩
      · omega
      · omega
      · omega
      · rw [e]
        refine nxt_l (by unfold stp; simp; omega) rfl ?_
        rw [isC3]; unfold boxS; simp only; omega
  · rcases Nat.lt_or_ge (i + 1) (2 * (w + h)) with hl | hl
    · rw [if_neg (show ¬ (i + 1 = 2 * (w + h)) by omega)]
      rcases hnext with ⟨q, e⟩ | ⟨_, q, _⟩ | ⟨_, q, _⟩ | ⟨_, e⟩
      · omega
      · omega
      · omega
      · rw [e]
        refine nxt_s (h := 3) (by unfold stp; simp; omega) rfl ?_ ?_
        · show ¬ isC _ _ 0
          rw [isC0]; unfold boxS; simp only; omega
        · rw [isC3]; unfold boxS; simp only; omega
    · rw [if_pos (show i + 1 = 2 * (w + h) by omega), h0]
      refine nxt_l (by unfold stp; simp; omega) rfl ?_
      rw [isC0]; unfold boxS; simp only; omega
theorem bpos_it (hw : 0 < w) (hh : 0 < h) : ∀ {i : Nat}, i < 2 * (w + h) → it (boxS x y w h) i (bpos x y w h 0) = bpos x y w h i
  | 0, _ => rfl
  | i + 1, hi => by
    show nxt _ (it _ i _) = _
    rw [bpos_it hw hh (by omega), bpos_next hw hh (by omega), if_neg (by omega)]
theorem bpos_inj (_hw : 0 < w) (_hh : 0 < h) {i j : Nat} (_hi : i < 2 * (w + h)) (_hj : j < 2 * (w + h)) (e : bpos x y w h i = bpos x y w h j) : i = j := by
  rcases bpos_h (x := x) (y := y) (w := w) (h := h) (i := i) with ⟨h1, e1⟩ | ⟨h1, h2, e1⟩ | ⟨h1, h2, e1⟩ | ⟨h1, e1⟩ <;> rcases bpos_h (x := x) (y := y) (w := w) (h := h) (i := j) with ⟨k1, e2⟩ | ⟨k1, k2, e2⟩ | ⟨k1, k2, e2⟩ | ⟨k1, e2⟩ <;>
    (rw [e1, e2] at e; simp only [Cr.mk.injEq, Pt.mk.injEq] at e; omega)
theorem box_per (hw : 0 < w) (hh : 0 < h) : Per (boxS x y w h) (bpos x y w h 0) (2 * (w + h)) := by
  refine ⟨by omega, ?_, fun i h0 hi e => ?_⟩
  · obtain ⟨m, hm⟩ : ∃ m, 2 * (w + h) = m + 1 := ⟨2 * (w + h) - 1, by omega⟩
    rw [hm]
    show nxt _ (it _ m _) = _
    rw [bpos_it hw hh (by omega), bpos_next hw hh (by omega), if_pos hm.symm]
  · rw [bpos_it hw hh hi] at e
    have := bpos_inj hw hh hi (by omega) e
    omega
theorem box_all (hw : 0 < w) (hh : 0 < h) {c : Cr} (hc : isCr (boxS x y w h) c) : ∃ i, i < 2 * (w + h) ∧ bpos x y w h i = c := by
  obtain ⟨⟨px, py⟩, k⟩ := c
  have hc' : isC (boxS x y w h) ⟨px, py⟩ k := hc
  rcases isC_h hc' with rfl | rfl | rfl | rfl
  · rw [isC0] at hc'; unfold boxS at hc'; simp only at hc'
    refine ⟨(px - x).toNat, by omega, ?_⟩
    unfold bpos; rw [if_pos (by omega)]; simp; omega
  · rw [isC1] at hc'; unfold boxS at hc'; simp only at hc'
    refine ⟨w + (py - y).toNat, by omega, ?_⟩
    unfold bpos; rw [if_neg (by omega), if_pos (by omega)]; simp; omega
  · rw [isC2] at hc'; unfold boxS at hc'; simp only at hc'
    refine ⟨w + h + (x + w - px).toNat, by omega, ?_⟩
    unfold bpos; rw [if_neg (by omega), if_neg (by omega), if_pos (by omega)]; simp; omega
  · rw [isC3] at hc'; unfold boxS at hc'; simp only at hc'
    refine ⟨w + h + w + (y + h - py).toNat, by omega, ?_⟩
    unfold bpos; rw [if_neg (by omega), if_neg (by omega), if_neg (by omega)]; simp; omega
theorem box_fin (hw : 0 < w) (hh : 0 < h) : FinS (boxS x y w h) := ⟨(List.range (2 * (w + h))).map (bpos x y w h), fun c hc => by
  obtain ⟨i, hi, e⟩ := box_all hw hh hc
  exact List.mem_map.2 ⟨i, List.mem_range.2 hi, e⟩⟩
theorem box_least (hw : 0 < w) (hh : 0 < h) : LeastAt (boxS x y w h) (bpos x y w h 0) := fun i => by
  have hn := box_per (x := x) (y := y) hw hh
  rw [hn.mod i, bpos_it hw hh (Nat.mod_lt _ hn.pos), lePt_iff]
  have h0 : bpos x y w h 0 = ⟨⟨x, y⟩, 0⟩ := by unfold bpos; rw [if_pos hw]; simp
  rw [h0]
  have hlt := Nat.mod_lt i hn.pos
  generalize i % (2 * (w + h)) = j at hlt
  rcases bpos_h (x := x) (y := y) (w := w) (h := h) (i := j) with ⟨h1, e1⟩ | ⟨h1, h2, e1⟩ | ⟨h1, h2, e1⟩ | ⟨h1, e1⟩ <;> (rw [e1]; first | (simp only; omega) | (simp; done) | (simp; omega))
theorem box_traces (hw : 0 < w) (hh : 0 < h) : Traces (boxS x y w h) [⟨corners (boxS x y w h) (bpos x y w h 0) (2 * (w + h))⟩] := by
  have hn := box_per (x := x) (y := y) hw hh
  have hc := bpos_isCr (x := x) (y := y) hw hh (i := 0) (by omega)
  have hl := box_least (x := x) (y := y) hw hh
  refine ⟨by simp, fun P => ?_⟩
  simp only [List.mem_cons, List.not_mem_nil, or_false]
  constructor
  · rintro rfl
    exact ⟨_, _, hc, hn, hl, rfl⟩
  · rintro ⟨c, n, h1, h2, h3, rfl⟩
    obtain ⟨i, hi, e⟩ := box_all hw hh h1
    have hs : Same (boxS x y w h) (bpos x y w h 0) c := ⟨i, by rw [bpos_it hw hh hi, e]⟩
    have := least_uniq hc (box_fin hw hh) hl h3 hs
    subst this
    rw [h2.uniq hn]
theorem box_upTo (hw : 0 < w) (hh : 0 < h) : upTo (boxS x y w h) (bpos x y w h 0) (2 * (w + h)) = (List.range (2 * (w + h))).map fun i => lcell (bpos x y w h i) := by
  unfold upTo
  have : ∀ (l : List Nat), (∀ i ∈ l, i < 2 * (w + h)) → l.flatMap (fun m => vis (boxS x y w h) (it (boxS x y w h) m (bpos x y w h 0))) = l.map fun i => lcell (bpos x y w h i) := by
    intro l
    induction l with
    | nil => intro _; rfl
    | cons a l ih =>
      intro hl
      have ha := hl a (by simp)
      rw [List.flatMap_cons, List.map_cons, ih fun i hi => hl i (by simp [hi]), bpos_it hw hh ha]
      have : vis (boxS x y w h) (bpos x y w h a) = [lcell (bpos x y w h a)] := by
        unfold vis rtc
        rw [if_neg]
        rw [bpos_next hw hh ha]
        intro e
        split at e
        · rename_i h1
          rcases bpos_h (x := x) (y := y) (w := w) (h := h) (i := a) with ⟨k1, e1⟩ | ⟨k1, k2, e1⟩ | ⟨k1, k2, e1⟩ | ⟨k1, e1⟩ <;> try omega
          rw [e1] at e
          unfold bpos at e; rw [if_pos hw] at e; simp [rt] at e
        · rename_i h1
          rcases bpos_h (x := x) (y := y) (w := w) (h := h) (i := a) with ⟨k1, e1⟩ | ⟨k1, k2, e1⟩ | ⟨k1, k2, e1⟩ | ⟨k1, e1⟩ <;> rcases bpos_h (x := x) (y := y) (w := w) (h := h) (i := a + 1) with ⟨m1, e2⟩ | ⟨m1, m2, e2⟩ | ⟨m1, m2, e2⟩ | ⟨m1, e2⟩ <;>
            (rw [e1, e2] at e; simp [rt] at e; try omega)
      rw [this]; rfl
  exact this _ fun i hi => List.mem_range.1 hi
end
/-! ### The region -/
def boxR (x y : Int) (w h : Nat) : Region := ⟨(List.range h).map fun i : Nat => ⟨y + (i : Int), [⟨x, x + w⟩]⟩⟩
theorem box_eq (x y : Int) (w h : Nat) (hx : -1000000 ≤ x ∧ x ≤ 1000000) (hy : -1000000 ≤ y ∧ y ≤ 1000000) (hw : w ≤ 1000000) (hh : h ≤ 1000000) : L24_box x y w h = some (boxR x y w h) := by
  refine Ret.eq ?_
  unfold L24_box
  refine Ret.bind (Q' := fun o => o = (boxR x y w h).rows) ?_ (fun o ho => by subst ho; exact Ret.mk rfl)
  refine Ret.loop (I := fun s : Int × List Row => ∃ k : Nat, s.1 = k ∧ k ≤ h ∧ s.2 = (List.range k).map fun i : Nat => ⟨y + (i : Int), [⟨x, x + w⟩]⟩) (μ := fun s : Int × List Row => h - s.1.toNat) (fun s hs => ?_) ⟨0, rfl, Nat.zero_le _, rfl⟩
  obtain ⟨t, l⟩ := s
  obtain ⟨k, rfl, hk, rfl⟩ := hs
  unfold L24_box_l1
  refine Ret.ifB (fun hlt => ?_) (fun hge => ?_)
  · rw [decide_eq_true_eq] at hlt
    refine Ret.chk (inR (by omega) (by omega)) (Ret.chk (inR (by omega) (by omega)) (Ret.chk (by simp; omega) (Ret.chk (inR (by omega) (by omega)) (Ret.mk ⟨⟨k + 1, by simp, by omega, ?_⟩, by simp only; omega⟩))))
    simp only
    rw [List.range_succ, List.map_append]; rfl
  · rw [decide_eq_false_iff_not] at hge
    have : k = h := by omega
    subst this
    exact Ret.mk rfl
theorem boxR_ok {x y : Int} {w h : Nat} (hx : -4096 ≤ x) (hx2 : x + w ≤ 4096) (hy : -4096 ≤ y) (hy2 : y + h ≤ 4096) (hw : 0 < w) : (boxR x y w h).Ok ∧ VReg (boxR x y w h) := by
  have hmem : ∀ v ∈ (boxR x y w h).rows, ∃ i, i < h ∧ v = ⟨y + (i : Int), [⟨x, x + w⟩]⟩ := fun v hv => by
    unfold boxR at hv
    rw [List.mem_map] at hv
    obtain ⟨i, hi, rfl⟩ := hv
    exact ⟨i, List.mem_range.1 hi, rfl⟩
  refine ⟨⟨?_, fun v hv => ?_⟩, fun v hv => ?_, ?_⟩
  · unfold boxR maxLen; simp; omega
  · obtain ⟨i, hi, rfl⟩ := hmem v hv
    refine ⟨by unfold In64; simp only; omega, by unfold maxLen; simp, fun z hz => ?_⟩
    simp only [List.mem_cons, List.not_mem_nil, or_false] at hz
    subst hz
    unfold Run.Ok In64; simp only; omega
  · obtain ⟨i, hi, rfl⟩ := hmem v hv
    refine ⟨by simp only; omega, by simp only; omega, by simp, fun z hz => ?_, by simp⟩
    simp only [List.mem_cons, List.not_mem_nil, or_false] at hz
    subst hz
    unfold RunIn; simp only; omega
  · unfold boxR
    rw [List.pairwise_map]
    exact List.pairwise_lt_range.imp fun h => by simp only; omega
theorem inG_box {x y : Int} {w h : Nat} : inG (boxR x y w h) = boxS x y w h := by
  funext a b
  refine propext ?_
  unfold inG boxR boxS inRuns
  constructor
  · rintro ⟨v, hv, e, z, hz, h1, h2⟩
    simp only [List.mem_map, List.mem_range] at hv
    obtain ⟨i, hi, rfl⟩ := hv
    simp only [List.mem_cons, List.not_mem_nil, or_false] at hz
    subst hz
    simp only at e h1 h2
    omega
  · rintro ⟨h1, h2, h3, h4⟩
    refine ⟨⟨y + ((b - y).toNat : Int), [⟨x, x + w⟩]⟩, ?_, by simp only; omega, ⟨x, x + w⟩, by simp, h1, h2⟩
    simp only [List.mem_map, List.mem_range]
    exact ⟨(b - y).toNat, by omega, rfl⟩
theorem box_walk {x y : Int} {w h : Nat} (hx : -4096 ≤ x) (hx2 : x + w ≤ 4096) (hy : -4096 ≤ y) (hy2 : y + h ≤ 4096) (hw : 0 < w) (hh : 0 < h) (hs : w + h ≤ 1000) :
    ringwalk_Walk (boxR x y w h) = some [⟨1, true, trim (ddl ((List.range (2 * (w + h))).map fun i => lcell (bpos x y w h i)))⟩] := by
  obtain ⟨hok, hV⟩ := boxR_ok hx hx2 hy hy2 hw (h := h)
  obtain ⟨ps, _, _, h1, _, h2, _⟩ := Walk_both (boxR x y w h) hok
  have ht := h2 hV
  rw [inG_box] at ht
  have e := ht.uniq (box_traces hw hh)
  subst e
  have hq := sq_inG hV
  rw [inG_box] at hq
  rw [h1]
  have hwk := wk_corners hq (bpos_isCr (x := x) (y := y) hw hh (i := 0) (by omega)) (box_per hw hh)
  rw [box_upTo hw hh] at hwk
  unfold walksOf
  have hl := ddl_len ((List.range (2 * (w + h))).map fun i => lcell (bpos x y w h i))
  have htl : ∀ l : List Cell, (trim l).length ≤ l.length := fun l => by unfold trim; split <;> simp
  have := htl (ddl ((List.range (2 * (w + h))).map fun i => lcell (bpos x y w h i)))
  rw [List.filter_cons_of_pos (by rw [hwk, decide_eq_true_eq]; simp at hl; omega), List.filter_nil, List.map_cons, List.map_nil, hwk]
end
end Go.AM
end
section
namespace Go.AM
open Go
noncomputable section
theorem awake_list : trim (ddl ((List.range (2 * (2 + 2))).map fun i => lcell (bpos 0 0 2 2 i))) = [⟨0, 0⟩, ⟨1, 0⟩, ⟨1, 1⟩, ⟨0, 1⟩] := by decide
theorem awake_eq : L24_awake = some true := by
  have h1 := box_eq 0 0 2 2 (by omega) (by omega) (by omega) (by omega)
  have h2 := box_walk (x := 0) (y := 0) (w := 2) (h := 2) (by omega) (by simp) (by omega) (by simp) (by omega) (by omega) (by omega)
  rw [awake_list] at h2
  unfold L24_awake
  rw [show ((2 : Nat) : Int) = 2 from rfl] at h1
  rw [h1, Option.bind_some, h2, Option.bind_some]
  rfl
end
end Go.AM
end
section
namespace Go.AM
open Go
noncomputable section
variable {S : Int → Int → Prop}
/-! ### A small region has short walks -/
theorem runsLen_ints : ∀ {l : List Run}, (∀ x ∈ l, x.frm < x.to) → ((ints l).length : Int) = runsLen l
  | [], _ => rfl
  | x :: l, h => by
    have h1 := h x (by simp)
    have h2 := runsLen_ints (l := l) fun y hy => h y (by simp [hy])
    unfold runsLen
    rw [← h2]
    unfold ints
    rw [List.flatMap_cons, List.length_append, irange_len]
    omega
theorem rowsLen_cells : ∀ {l : List Row}, (∀ w ∈ l, ∀ x ∈ w.runs, x.frm < x.to) → ((l.flatMap rowCells).length : Int) = rowsLen l
  | [], _ => rfl
  | w :: l, h => by
    have h1 := runsLen_ints (h w (by simp))
    have h2 := rowsLen_cells (l := l) fun y hy => h y (by simp [hy])
    unfold rowsLen
    rw [← h1, ← h2, List.flatMap_cons, List.length_append]
    unfold rowCells
    rw [List.length_map]; omega
theorem small_cells {r : Region} (hV : VReg r) (hs : smallB r = true) : (cellsR r).length ≤ 600 := by
  unfold smallB at hs
  rw [Bool.and_eq_true, decide_eq_true_eq] at hs
  have h1 := hs.2
  unfold countR at h1
  rw [if_pos (validB_iff.2 hV)] at h1
  have := rowsLen_cells (l := r.rows) fun w hw x hx => ((hV.1 w hw).2.2.2.1 x hx).2.1
  unfold cellsR
  omega
theorem cand_few : ∀ {l : List Cell}, (l.flatMap (cellCr S)).length ≤ 4 * l.length
  | [] => by simp
  | a :: l => by
    have h1 : (cellCr S a).length ≤ 4 := by unfold cellCr; exact Nat.le_trans (List.length_filter_le _ _) (by simp [cand])
    have h2 := cand_few (l := l)
    rw [List.flatMap_cons, List.length_append, List.length_cons]; omega
theorem per_small {r : Region} (hV : VReg r) (hs : smallB r = true) {c : Cr} (hc : isCr (inG r) c) {n : Nat} (hn : Per (inG r) c n) : n ≤ 2400 := by
  have hnd : ((List.range n).map fun i => it (inG r) i c).Nodup := by
    unfold List.Nodup
    rw [List.pairwise_map]
    refine List.Pairwise.imp_of_mem (fun {i j} hi hj hlt e => ?_) List.pairwise_lt_range
    rw [List.mem_range] at hi hj
    have := hn.inj hc hi hj e; omega
  have := nodup_sub_len hnd (m := crsOf r) fun x hx => by
    rw [List.mem_map] at hx
    obtain ⟨i, _, rfl⟩ := hx
    exact mem_crsOf.2 (it_isCr hc i)
  have h2 := small_cells hV hs
  have h3 := cand_few (S := inG r) (l := cellsR r)
  unfold crsOf at this
  simp only [List.length_map, List.length_range] at this
  omega
theorem wk_poly {r : Region} (hV : VReg r) (hs : smallB r = true) {P : Poly} (h : IsPoly (inG r) P) : Ring (inG r) (wk P) ∧ (wk P).length ≤ 4800 := by
  obtain ⟨c, n, h1, h2, _, rfl⟩ := h
  have hq := sq_inG hV
  rw [wk_corners hq h1 h2]
  refine ⟨trim_ring h1 h2, ?_⟩
  have hl := ddl_len (upTo (inG r) c n)
  have hu := upTo_len (S := inG r) c n
  have hp := per_small hV hs h1 h2
  have : (trim (ddl (upTo (inG r) c n))).length ≤ (ddl (upTo (inG r) c n)).length := by unfold trim; split <;> simp
  omega
theorem walksOf_all {ps : List Poly} (h : ∀ P ∈ ps, (wk P).length ≤ 65536) : walksOf ps = ps.map fun P => ⟨1, true, wk P⟩ := by
  unfold walksOf
  rw [List.filter_eq_self.2 fun P hP => by simpa using h P hP]
theorem RingwalkTracks_true (r : Region) (hr : r.Ok) : L24_RingwalkTracks r = some true := by
  unfold L24_RingwalkTracks
  rw [Small_eq r hr, Option.bind_some]
  by_cases hs : smallB r = true
  · obtain ⟨ps, hl, h1, h2, _, h4, h5⟩ := Walk_both r hr
    rw [hs]
    show (ringwalk_Walk r).bind _ = _
    rw [h2, Option.bind_some]
    have hlen : (walksOf ps).length = ps.length ∧ ∀ t ∈ walksOf ps, track_Valid t = some true ∧ t.closed = true ∧ t.role = 1 := by
      by_cases hV : VReg r
      · have hT := h4 hV
        have hw : ∀ P ∈ ps, Ring (inG r) (wk P) ∧ (wk P).length ≤ 4800 := fun P hP => wk_poly hV hs ((hT.mem P).1 hP)
        rw [walksOf_all fun P hP => by have := (hw P hP).2; omega]
        refine ⟨by simp, fun t ht => ?_⟩
        rw [List.mem_map] at ht
        obtain ⟨P, hP, rfl⟩ := ht
        exact ⟨track_valid (sq_inG hV) (hw P hP).1 (by have := (hw P hP).2; omega), rfl, rfl⟩
      · rw [h5 hV]; exact ⟨rfl, fun t ht => by cases ht⟩
    refine Ret.eq ?_
    refine Ret.bind (Q' := fun o => o = .inl ()) ?_ (fun o ho => ?_)
    · refine Ret.loop (I := fun i : Int => ∃ k : Nat, i = k ∧ k ≤ (walksOf ps).length) (μ := fun i : Int => (walksOf ps).length - i.toNat) (fun i hi => ?_) ⟨0, rfl, Nat.zero_le _⟩
      obtain ⟨k, rfl, hk⟩ := hi
      unfold L24_RingwalkTracks_l2
      refine Ret.ifB (fun hlt => ?_) (fun hge => Ret.mk rfl)
      rw [decide_eq_true_eq] at hlt
      have hk' : k < (walksOf ps).length := by omega
      obtain ⟨v1, v2, v3⟩ := hlen.2 _ (List.getElem_mem hk')
      refine Ret.bindE (x := false) (Ret.eq ?_) (Ret.ifF rfl (Ret.chk (inR (by omega) (by omega)) (Ret.mk ⟨⟨k + 1, by omega, by omega⟩, by omega⟩)))
      unfold L24_RingwalkTracks_j1
      exact Ret.getI rfl hk' (Ret.bindE v1 (Ret.ifF rfl (Ret.ifF (by rw [v2]; rfl) (Ret.mk (by rw [v3]; rfl)))))
    · subst ho
      refine Ret.bindE (x := true) (Ret.eq ?_) (Ret.mk rfl)
      unfold L24_RingwalkTracks_j3
      exact Ret.bindE h1 (Ret.ifT (by rw [hlen.1, beq_self_eq_true]) (Ret.bindE awake_eq (Ret.mk rfl)))
  · rw [Bool.not_eq_true] at hs
    rw [hs, awake_eq]
    rfl
end
end Go.AM
end
section
namespace Go.AM
open Go
noncomputable section
variable {S : Int → Int → Prop} {dx dy : Int}
def mvS (dx dy : Int) (S : Int → Int → Prop) : Int → Int → Prop := fun x y => S (x - dx) (y - dy)
def mvP (dx dy : Int) (p : Pt) : Pt := ⟨p.x + dx, p.y + dy⟩
def mvC (dx dy : Int) (c : Cell) : Cell := ⟨c.x + dx, c.y + dy⟩
def mvK (dx dy : Int) (c : Cr) : Cr := ⟨mvP dx dy c.p, c.h⟩
def mvPoly (dx dy : Int) (P : Poly) : Poly := ⟨P.pts.map (mvP dx dy)⟩
theorem mvP_inj {p q : Pt} (h : mvP dx dy p = mvP dx dy q) : p = q := by
  obtain ⟨a, b⟩ := p; obtain ⟨c, d⟩ := q
  unfold mvP at h; simp only [Pt.mk.injEq] at h ⊢; omega
theorem mvC_inj {p q : Cell} (h : mvC dx dy p = mvC dx dy q) : p = q := by
  obtain ⟨a, b⟩ := p; obtain ⟨c, d⟩ := q
  unfold mvC at h; simp only [Cell.mk.injEq] at h ⊢; omega
theorem mvK_inj {p q : Cr} (h : mvK dx dy p = mvK dx dy q) : p = q := by
  obtain ⟨a, b⟩ := p; obtain ⟨c, d⟩ := q
  unfold mvK at h; simp only [Cr.mk.injEq] at h ⊢
  exact ⟨mvP_inj h.1, h.2⟩
theorem isC_mv {p : Pt} {h : Int} : isC (mvS dx dy S) (mvP dx dy p) h ↔ isC S p h := by
  unfold isC mvS mvP
  simp only
  rw [show p.x + dx - dx = p.x by omega, show p.y + dy - dy = p.y by omega, show p.y + dy - 1 - dy = p.y - 1 by omega, show p.x + dx - 1 - dx = p.x - 1 by omega]
theorem isCr_mv {c : Cr} : isCr (mvS dx dy S) (mvK dx dy c) ↔ isCr S c := isC_mv
theorem stp_mv (p : Pt) (h : Int) : stp (mvP dx dy p) h = mvP dx dy (stp p h) := by
  unfold stp mvP
  split
  · simp; omega
  · split
    · simp; omega
    · split <;> simp <;> omega
theorem nxt_mv (c : Cr) : nxt (mvS dx dy S) (mvK dx dy c) = mvK dx dy (nxt S c) := by
  have e : stp (mvK dx dy c).p (mvK dx dy c).h = mvP dx dy (stp c.p c.h) := stp_mv c.p c.h
  by_cases h1 : isC S (stp c.p c.h) (lf c.h)
  · have a : nxt S c = ⟨stp c.p c.h, lf c.h⟩ := by unfold nxt; exact if_pos h1
    have b : nxt (mvS dx dy S) (mvK dx dy c) = ⟨stp (mvK dx dy c).p (mvK dx dy c).h, lf (mvK dx dy c).h⟩ := by
      unfold nxt; exact if_pos (by rw [e]; exact isC_mv.2 h1)
    rw [a, b, e]; rfl
  · have n1 : ¬ isC (mvS dx dy S) (stp (mvK dx dy c).p (mvK dx dy c).h) (lf (mvK dx dy c).h) := by rw [e]; exact fun h => h1 (isC_mv.1 h)
    by_cases h2 : isC S (stp c.p c.h) c.h
    · have a : nxt S c = ⟨stp c.p c.h, c.h⟩ := by unfold nxt; rw [if_neg h1, if_pos h2]
      have b : nxt (mvS dx dy S) (mvK dx dy c) = ⟨stp (mvK dx dy c).p (mvK dx dy c).h, (mvK dx dy c).h⟩ := by
        unfold nxt; rw [if_neg n1, if_pos (by rw [e]; exact isC_mv.2 h2)]
      rw [a, b, e]; rfl
    · have a : nxt S c = ⟨stp c.p c.h, rt c.h⟩ := by unfold nxt; rw [if_neg h1, if_neg h2]
      have b : nxt (mvS dx dy S) (mvK dx dy c) = ⟨stp (mvK dx dy c).p (mvK dx dy c).h, rt (mvK dx dy c).h⟩ := by
        unfold nxt; rw [if_neg n1, if_neg (by rw [e]; exact fun h => h2 (isC_mv.1 h))]
      rw [a, b, e]; rfl
theorem it_mv (c : Cr) : ∀ n, it (mvS dx dy S) n (mvK dx dy c) = mvK dx dy (it S n c)
  | 0 => rfl
  | n + 1 => by show nxt _ (it _ n _) = mvK dx dy (nxt S (it S n c)); rw [it_mv c n, nxt_mv]
theorem per_mv {c : Cr} {n : Nat} (h : Per S c n) : Per (mvS dx dy S) (mvK dx dy c) n := ⟨h.pos, by rw [it_mv, h.back], fun i h0 hi e => by rw [it_mv] at e; exact h.first i h0 hi (mvK_inj e)⟩
theorem least_mv {c : Cr} (h : LeastAt S c) : LeastAt (mvS dx dy S) (mvK dx dy c) := fun i => by
  have := h i
  rw [it_mv]
  rw [lePt_iff] at this ⊢
  simp only [mvK, mvP]
  omega
theorem turns_mv (c : Cr) : ∀ n, turns (mvS dx dy S) (mvK dx dy c) n = (turns S c n).map (mvP dx dy)
  | 0 => rfl
  | n + 1 => by
    rw [turns, turns, turns_mv c n, it_mv, it_mv, List.map_append]
    congr 1
    by_cases h : (it S (n + 1) c).h ≠ (it S n c).h
    · rw [if_pos h]; exact if_pos h
    · rw [if_neg h]; exact if_neg h
theorem corners_mv (c : Cr) (n : Nat) : corners (mvS dx dy S) (mvK dx dy c) n = (corners S c n).map (mvP dx dy) := by
  unfold corners; rw [turns_mv]; rfl
theorem poly_mv {P : Poly} (h : IsPoly S P) : IsPoly (mvS dx dy S) (mvPoly dx dy P) := by
  obtain ⟨c, n, h1, h2, h3, rfl⟩ := h
  exact ⟨mvK dx dy c, n, isCr_mv.2 h1, per_mv h2, least_mv h3, by rw [corners_mv]; rfl⟩
theorem mvS_mvS : mvS (-dx) (-dy) (mvS dx dy S) = S := by
  funext x y; unfold mvS
  rw [show x - -dx - dx = x by omega, show y - -dy - dy = y by omega]
theorem mvP_mvP (p : Pt) : mvP dx dy (mvP (-dx) (-dy) p) = p := by
  obtain ⟨a, b⟩ := p
  unfold mvP; simp only [Pt.mk.injEq]; omega
theorem mvPoly_mvPoly (P : Poly) : mvPoly dx dy (mvPoly (-dx) (-dy) P) = P := by
  obtain ⟨l⟩ := P
  unfold mvPoly
  simp only [List.map_map, Poly.mk.injEq]
  have : (mvP dx dy ∘ mvP (-dx) (-dy)) = id := funext fun p => mvP_mvP p
  rw [this, List.map_id]
theorem hd_mv {P : Poly} (h : P.pts ≠ []) : hd (mvPoly dx dy P) = mvP dx dy (hd P) := by
  obtain ⟨l⟩ := P
  cases l with
  | nil => exact absurd rfl h
  | cons a l => rfl
theorem traces_mv {ps : List Poly} (h : Traces S ps) : Traces (mvS dx dy S) (ps.map (mvPoly dx dy)) := by
  have hne : ∀ P ∈ ps, P.pts ≠ [] := fun P hP => by
    obtain ⟨c, n, _, _, _, rfl⟩ := (h.mem P).1 hP
    unfold corners; simp
  refine ⟨?_, fun P => ?_⟩
  · rw [List.pairwise_map]
    refine h.sorted.imp_of_mem fun {a b} ha hb hlt => ?_
    rw [hd_mv (hne a ha), hd_mv (hne b hb)]
    unfold ltPt mvP at *; simp only; omega
  · rw [List.mem_map]
    constructor
    · rintro ⟨Q, hQ, rfl⟩
      exact poly_mv ((h.mem Q).1 hQ)
    · intro hP
      have := poly_mv (dx := -dx) (dy := -dy) hP
      rw [mvS_mvS] at this
      exact ⟨_, (h.mem _).2 this, mvPoly_mvPoly P⟩
/-! ### Walks -/
theorem lcell_mv (c : Cr) : lcell (mvK dx dy c) = mvC dx dy (lcell c) := by
  obtain ⟨⟨x, y⟩, h⟩ := c
  unfold lcell mvK mvP mvC
  simp only
  split
  · rfl
  · split
    · simp; omega
    · split <;> simp <;> omega
theorem vis_mv (c : Cr) : vis (mvS dx dy S) (mvK dx dy c) = (vis S c).map (mvC dx dy) := by
  unfold vis rtc
  rw [lcell_mv, List.map_cons, nxt_mv]
  congr 1
  by_cases h : (nxt S c).h = rt c.h
  · rw [if_pos h]
    refine (if_pos h).trans ?_
    simp [mvC, mvK]; omega
  · rw [if_neg h]; exact if_neg h
theorem upTo_mv (c : Cr) : ∀ n, upTo (mvS dx dy S) (mvK dx dy c) n = (upTo S c n).map (mvC dx dy)
  | 0 => rfl
  | n + 1 => by rw [upTo_succ, upTo_succ, List.map_append, upTo_mv c n, it_mv, vis_mv]
theorem adc_mv (l : List Cell) (c : Cell) : adc (l.map (mvC dx dy)) (mvC dx dy c) = (adc l c).map (mvC dx dy) := by
  unfold adc
  rw [List.getLast?_map]
  by_cases h : l.getLast? = some c
  · rw [if_pos h, h, Option.map_some, if_pos rfl]
  · rw [if_neg h, if_neg, List.map_append]; rfl
    intro e
    cases hl : l.getLast? with
    | none => rw [hl] at e; cases e
    | some z =>
      rw [hl, Option.map_some] at e
      exact h (by rw [hl, mvC_inj (Option.some.inj e)])
theorem foldl_mv : ∀ (l acc : List Cell), (l.map (mvC dx dy)).foldl adc (acc.map (mvC dx dy)) = (l.foldl adc acc).map (mvC dx dy)
  | [], _ => rfl
  | a :: l, acc => by rw [List.map_cons, List.foldl_cons, List.foldl_cons, adc_mv, foldl_mv]
theorem ddl_mv (l : List Cell) : ddl (l.map (mvC dx dy)) = (ddl l).map (mvC dx dy) := foldl_mv l []
theorem trim_mv (l : List Cell) : trim (l.map (mvC dx dy)) = (trim l).map (mvC dx dy) := by
  have hiff : (l.map (mvC dx dy)).head? = (l.map (mvC dx dy)).getLast? ↔ l.head? = l.getLast? := by
    rw [List.getLast?_map, List.head?_map]
    cases l.head? <;> cases l.getLast? <;> simp
    exact ⟨mvC_inj, fun h => by rw [h]⟩
  unfold trim
  by_cases h : 1 < l.length ∧ l.head? = l.getLast?
  · rw [if_pos h, if_pos ⟨by rw [List.length_map]; exact h.1, hiff.2 h.2⟩, List.map_dropLast]
  · rw [if_neg h, if_neg fun k => h ⟨by rw [List.length_map] at k; exact k.1, hiff.1 k.2⟩]
theorem wk_mv (hq : Sq S) (hq' : Sq (mvS dx dy S)) {P : Poly} (h : IsPoly S P) : wk (mvPoly dx dy P) = (wk P).map (mvC dx dy) := by
  obtain ⟨c, n, h1, h2, h3, rfl⟩ := h
  rw [wk_corners hq h1 h2]
  have : mvPoly dx dy ⟨corners S c n⟩ = ⟨corners (mvS dx dy S) (mvK dx dy c) n⟩ := by rw [corners_mv]; rfl
  rw [this, wk_corners hq' (isCr_mv.2 h1) (per_mv h2), upTo_mv, ddl_mv, trim_mv]
def mvT (dx dy : Int) (t : Track) : Track := ⟨t.role, t.closed, t.cells.map (mvC dx dy)⟩
theorem walks_mv {ps : List Poly} (h : ∀ P ∈ ps, wk (mvPoly dx dy P) = (wk P).map (mvC dx dy)) : walksOf (ps.map (mvPoly dx dy)) = (walksOf ps).map (mvT dx dy) := by
  unfold walksOf
  rw [List.filter_map, List.map_map, List.map_map]
  have e : ps.filter ((fun P => decide ((wk P).length ≤ 65536)) ∘ mvPoly dx dy) = ps.filter fun P => decide ((wk P).length ≤ 65536) := by
    refine List.filter_congr fun P hP => ?_
    simp only [Function.comp]
    rw [h P hP, List.length_map]
  rw [e]
  refine List.map_congr_left fun P hP => ?_
  simp only [Function.comp, mvT]
  rw [h P (List.mem_filter.1 hP).1]
end
end Go.AM
end
