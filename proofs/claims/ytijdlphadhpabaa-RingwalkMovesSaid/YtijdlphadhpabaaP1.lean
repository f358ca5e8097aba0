/- Small words for models: a part that answers, and what its answer is good for. -/
import Derived.Test.YtijdlphadhpabaaA3
import Derived.Test.YtijdlphadhpabaaA4
import Derived.Test.YtijdlphadhpabaaA1
import Derived.Test.YtijdlphadhpabaaA6
import Derived.Test.YtijdlphadhpabaaA8
import Derived.Test.YtijdlphadhpabaaA5
import Derived.Test.YtijdlphadhpabaaA7
import Derived.Test.YtijdlphadhpabaaA2
import Derived.Test.YtijdlphadhpabaaA9
import Derived.Test.YtijdlphadhpabaaF1
section
namespace Go.AM
open Go
/-- The part answers, and the answer is good. -/
def Ret {α : Type} (m : Option α) (Q : α → Prop) : Prop := ∃ r, m = some r ∧ Q r
section
variable {α β : Type}
theorem Ret.mk {x : α} {Q : α → Prop} (h : Q x) : Ret (some x) Q := ⟨x, rfl, h⟩
theorem Ret.bind {m : Option α} {k : α → Option β} {Q' : α → Prop} {Q : β → Prop} (h : Ret m Q') (hk : ∀ x, Q' x → Ret (k x) Q) : Ret (m.bind k) Q := by
  obtain ⟨x, rfl, hx⟩ := h; exact hk x hx
theorem Ret.bindE {m : Option α} {k : α → Option β} {x : α} {Q : β → Prop} (h : m = some x) (hk : Ret (k x) Q) : Ret (m.bind k) Q := by subst h; exact hk
theorem Ret.chk {p : Prop} [Decidable p] {k : Option α} {Q : α → Prop} (hp : p) (h : Ret k Q) : Ret (chk p k) Q := by unfold Go.AM.chk; rw [if_pos hp]; exact h
theorem Ret.ifB {b : Bool} {x y : Option α} {Q : α → Prop} (h : b = true → Ret x Q) (h2 : b = false → Ret y Q) : Ret (ifB b x y) Q := by cases b with | true => exact h rfl | false => exact h2 rfl
theorem Ret.ifT {b : Bool} {x y : Option α} {Q : α → Prop} (hb : b = true) (h : Ret x Q) : Ret (Go.AM.ifB b x y) Q := by subst hb; exact h
theorem Ret.ifF {b : Bool} {x y : Option α} {Q : α → Prop} (hb : b = false) (h : Ret y Q) : Ret (Go.AM.ifB b x y) Q := by subst hb; exact h
theorem Ret.mono {m : Option α} {Q Q' : α → Prop} (h : Ret m Q) (hq : ∀ x, Q x → Q' x) : Ret m Q' := by obtain ⟨x, h1, h2⟩ := h; exact ⟨x, h1, hq x h2⟩
theorem Ret.eq {m : Option α} {x : α} (h : Ret m (· = x)) : m = some x := by obtain ⟨y, h1, rfl⟩ := h; exact h1
theorem Ret.of {m : Option α} {x : α} {Q : α → Prop} (h : m = some x) (hq : Q x) : Ret m Q := ⟨x, h, hq⟩
theorem getI_some {l : List α} {i : Int} {k : Nat} (hi : i = k) {x : α} (h : l[k]? = some x) : getI l i = some x := by
  subst hi; unfold getI; rw [if_pos (by omega), Int.toNat_natCast]; exact h
theorem getI_lt {l : List α} {i : Int} {k : Nat} (hi : i = k) (h : k < l.length) : getI l i = some l[k] := getI_some hi (List.getElem?_eq_getElem h)
theorem Ret.getI {l : List α} {i : Int} {k : Nat} {g : α → Option β} {Q : β → Prop} (hi : i = k) (hk : k < l.length) (h : Ret (g l[k]) Q) : Ret ((Go.AM.getI l i).bind g) Q := Ret.bindE (getI_lt hi hk) h
/-- A loop: a relation, a measure. -/
theorem Ret.loop {S R : Type} {step : S → Option (S ⊕ R)} (I : S → Prop) (μ : S → Nat) {Q : R → Prop} (h : ∀ s, I s → Ret (step s) fun o => match o with | .inl s' => I s' ∧ μ s' < μ s | .inr r => Q r) {s0 : S} (h0 : I s0) : Ret (loopP step s0) Q := by
  have key : ∀ (n : Nat) (s : S), μ s < n → I s → Ret (loopP step s) Q := by
    intro n
    induction n with
    | zero => intro s hs; exact absurd hs (Nat.not_lt_zero _)
    | succ n ih =>
      intro s hs hi
      obtain ⟨o, ho, hq⟩ := h s hi
      cases o with
      | inl s' =>
        rw [loopP_inl ho]
        exact ih s' (by have := hq.2; omega) hq.1
      | inr r => exact ⟨r, loopP_inr ho, hq⟩
  exact key _ s0 (Nat.lt_succ_self _) h0
/-- A loop: a relation that counts down. -/
theorem Ret.loopN {S R : Type} {step : S → Option (S ⊕ R)} (I : Nat → S → Prop) {Q : R → Prop} (h : ∀ k s, I k s → Ret (step s) fun o => match o with | .inl s' => ∃ k', k' < k ∧ I k' s' | .inr r => Q r) (k0 : Nat) {s0 : S} (h0 : I k0 s0) : Ret (loopP step s0) Q := by
  induction k0 using Nat.strongRecOn generalizing s0 with
  | ind k0 ih =>
    obtain ⟨o, ho, hq⟩ := h k0 s0 h0
    cases o with
    | inl s' =>
      obtain ⟨k', hk, hi⟩ := hq
      rw [loopP_inl ho]
      exact ih k' hk hi
    | inr r => exact ⟨r, loopP_inr ho, hq⟩
end
theorem inR {n : Int} (h1 : -9223372036854775808 ≤ n) (h2 : n ≤ 9223372036854775807) : InR .i64 n := ⟨h1, h2⟩
end Go.AM
end
section
namespace Go.AM
open Go
def okRun (B : Int) (p : Option Run) (x : Run) : Bool := decide (-B ≤ x.frm) && decide (x.frm < x.to) && decide (x.to ≤ B) && (match p with | none => true | some y => decide (y.to < x.frm))
def runsV (B : Int) : Option Run → List Run → Bool
  | _, [] => true
  | p, x :: l => okRun B p x && runsV B (some x) l
def okRow (p : Option Row) (w : Row) : Bool := decide (-4096 ≤ w.y) && decide (w.y < 4096) && (match p with | none => true | some v => decide (v.y < w.y)) && (decide (w.runs ≠ []) && runsV 4096 none w.runs)
def rowsV : Option Row → List Row → Bool
  | _, [] => true
  | p, w :: l => okRow p w && rowsV (some w) l
def validB (r : Region) : Bool := rowsV none r.rows
/-- The element ahead of place k. -/
def prev {α : Type} (l : List α) (k : Nat) : Option α := if k = 0 then none else l[k - 1]?
theorem prev_zero {α : Type} (l : List α) : prev l 0 = none := rfl
theorem prev_succ {α : Type} {l : List α} {k : Nat} (h : k < l.length) : prev l (k + 1) = some l[k] := by simp [prev, h]
theorem prev_pos {α : Type} {l : List α} {k : Nat} (h : k < l.length) (h0 : 0 < k) : prev l k = some (l[k - 1]'(by omega)) := by
  unfold prev; rw [if_neg (by omega), List.getElem?_eq_getElem (by omega)]
theorem fine_eq (l : List Run) (hl : l.length ≤ maxLen) : R18_fine l = some (decide (l ≠ []) && runsV 4096 none l) := by
  unfold maxLen at hl
  refine Ret.eq ?_
  unfold R18_fine
  refine Ret.bind (Q' := fun o => runsV 4096 none l = match o with | .inl _ => true | .inr _ => false) ?_ (fun o ho => ?_)
  · refine Ret.loop (I := fun i : Int => ∃ k : Nat, i = k ∧ k ≤ l.length ∧ runsV 4096 (prev l k) (l.drop k) = runsV 4096 none l) (μ := fun i : Int => l.length - i.toNat) (fun i hi => ?_) ⟨0, rfl, Nat.zero_le _, rfl⟩
    obtain ⟨k, rfl, hk, hI⟩ := hi
    unfold R18_fine_l2
    refine Ret.ifB (fun hlt => ?_) (fun hge => ?_)
    · rw [decide_eq_true_eq] at hlt
      have hk' : k < l.length := by omega
      have hd : l.drop k = l[k] :: l.drop (k + 1) := List.drop_eq_getElem_cons hk'
      rw [hd, runsV] at hI
      have hj : R18_fine_j1 l k = some (!(okRun 4096 (prev l k) l[k])) := by
        refine Ret.eq ?_
        unfold R18_fine_j1
        refine Ret.getI rfl hk' ?_
        refine Ret.ifB (fun h => ?_) (fun h => ?_)
        · rw [decide_eq_true_eq] at h; exact Ret.mk (by simp [okRun]; omega)
        rw [decide_eq_false_iff_not] at h
        refine Ret.ifB (fun h2 => ?_) (fun h2 => ?_)
        · rw [decide_eq_true_eq] at h2; exact Ret.mk (by simp [okRun]; omega)
        rw [decide_eq_false_iff_not] at h2
        refine Ret.ifB (fun h3 => ?_) (fun h3 => ?_)
        · rw [decide_eq_true_eq] at h3; exact Ret.mk (by simp [okRun]; omega)
        rw [decide_eq_false_iff_not] at h3
        refine Ret.ifB (fun h4 => ?_) (fun h4 => ?_)
        · rw [decide_eq_true_eq] at h4
          refine Ret.chk (inR (by omega) (by omega)) (Ret.getI (k := k - 1) (by omega) (by omega) (Ret.mk ?_))
          rw [prev_pos hk' (by omega), Bool.eq_iff_iff]
          simp [okRun]; omega
        · rw [decide_eq_false_iff_not] at h4
          have : k = 0 := by omega
          subst this
          refine Ret.mk ?_
          simp [okRun, prev]; omega
      refine Ret.bindE hj ?_
      refine Ret.ifB (fun h => ?_) (fun h => ?_)
      · refine Ret.mk ?_
        simp only [Bool.not_eq_true'] at h
        rw [h] at hI; simpa using hI.symm
      · refine Ret.chk (inR (by omega) (by omega)) (Ret.mk ⟨⟨k + 1, by omega, by omega, ?_⟩, by omega⟩)
        simp only [Bool.not_eq_false'] at h
        rw [h, Bool.true_and] at hI
        rw [prev_succ hk']; exact hI
    · rw [decide_eq_false_iff_not] at hge
      have : k = l.length := by omega
      subst this
      rw [List.drop_length, runsV] at hI
      exact Ret.mk hI.symm
  · cases o with
    | inl _ => refine Ret.mk ?_; simp only at ho; rw [ho, Bool.and_true, Bool.eq_iff_iff, decide_eq_true_eq, decide_eq_true_eq]; cases l <;> simp
    | inr _ => refine Ret.mk ?_; simp only at ho; rw [ho]; simp
/-! ### What 'valid' says -/
def RunIn (B : Int) (x : Run) : Prop := -B ≤ x.frm ∧ x.frm < x.to ∧ x.to ≤ B
theorem okRun_iff {B : Int} {p : Option Run} {x : Run} : okRun B p x = true ↔ RunIn B x ∧ ∀ y, p = some y → y.to < x.frm := by
  unfold okRun RunIn
  cases p with
  | none => simp [and_assoc]
  | some y => simp [and_assoc]
theorem runsV_iff {B : Int} : ∀ {l : List Run} {p : Option Run}, runsV B p l = true ↔ (∀ x ∈ l, RunIn B x) ∧ l.Pairwise (fun x y => x.to < y.frm) ∧ ∀ y, p = some y → ∀ x ∈ l, y.to < x.frm
  | [], p => by simp [runsV]
  | x :: l, p => by
    rw [runsV, Bool.and_eq_true, okRun_iff, runsV_iff, List.pairwise_cons]
    constructor
    · rintro ⟨⟨h1, h2⟩, h3, h4, h5⟩
      have h6 := h5 x rfl
      refine ⟨fun z hz => ?_, ⟨h6, h4⟩, fun y hy z hz => ?_⟩
      · rcases List.mem_cons.1 hz with rfl | hz
        · exact h1
        · exact h3 z hz
      · rcases List.mem_cons.1 hz with rfl | hz
        · exact h2 y hy
        · have := h2 y hy; have := h6 z hz; have := h1.2.1; omega
    · rintro ⟨h1, ⟨h2, h3⟩, h4⟩
      refine ⟨⟨h1 x (by simp), fun y hy => h4 y hy x (by simp)⟩, fun z hz => h1 z (by simp [hz]), h3, fun y hy z hz => ?_⟩
      injection hy with hy; subst hy; exact h2 z hz
theorem runsV_none {B : Int} {l : List Run} : runsV B none l = true ↔ (∀ x ∈ l, RunIn B x) ∧ l.Pairwise (fun x y => x.to < y.frm) := by
  rw [runsV_iff]; simp
def RowIn (w : Row) : Prop := -4096 ≤ w.y ∧ w.y < 4096 ∧ w.runs ≠ [] ∧ (∀ x ∈ w.runs, RunIn 4096 x) ∧ w.runs.Pairwise (fun x y => x.to < y.frm)
theorem okRow_iff {p : Option Row} {w : Row} : okRow p w = true ↔ RowIn w ∧ ∀ v, p = some v → v.y < w.y := by
  unfold okRow RowIn
  rw [← runsV_none]
  cases p with
  | none => simp [and_assoc]
  | some y => simp only [Bool.and_eq_true, decide_eq_true_eq, Option.some.injEq, forall_eq']; constructor <;> (intro h; simp_all)
theorem rowsV_iff : ∀ {l : List Row} {p : Option Row}, rowsV p l = true ↔ (∀ w ∈ l, RowIn w) ∧ l.Pairwise (fun v w => v.y < w.y) ∧ ∀ v, p = some v → ∀ w ∈ l, v.y < w.y
  | [], p => by simp [rowsV]
  | x :: l, p => by
    rw [rowsV, Bool.and_eq_true, okRow_iff, rowsV_iff, List.pairwise_cons]
    constructor
    · rintro ⟨⟨h1, h2⟩, h3, h4, h5⟩
      have h6 := h5 x rfl
      refine ⟨fun z hz => ?_, ⟨h6, h4⟩, fun y hy z hz => ?_⟩
      · rcases List.mem_cons.1 hz with rfl | hz
        · exact h1
        · exact h3 z hz
      · rcases List.mem_cons.1 hz with rfl | hz
        · exact h2 y hy
        · have := h2 y hy; have := h6 z hz; omega
    · rintro ⟨h1, ⟨h2, h3⟩, h4⟩
      refine ⟨⟨h1 x (by simp), fun y hy => h4 y hy x (by simp)⟩, fun z hz => h1 z (by simp [hz]), h3, fun y hy z hz => ?_⟩
      injection hy with hy; subst hy; exact h2 z hz
def VReg (r : Region) : Prop := (∀ w ∈ r.rows, RowIn w) ∧ r.rows.Pairwise (fun v w => v.y < w.y)
theorem validB_iff {r : Region} : validB r = true ↔ VReg r := by unfold validB VReg; rw [rowsV_iff]; simp
/-! ### The programs -/
theorem R18_Valid_eq (r : Region) (hr : r.Ok) : R18_Valid r = some (validB r) := by
  have hl := hr.1
  have hok := hr.2
  unfold maxLen at hl
  refine Ret.eq ?_
  unfold R18_Valid validB
  refine Ret.bind (Q' := fun o => rowsV none r.rows = match o with | .inl _ => true | .inr _ => false) ?_ (fun o ho => ?_)
  · refine Ret.loop (I := fun i : Int => ∃ k : Nat, i = k ∧ k ≤ r.rows.length ∧ rowsV (prev r.rows k) (r.rows.drop k) = rowsV none r.rows) (μ := fun i : Int => r.rows.length - i.toNat) (fun i hi => ?_) ⟨0, rfl, Nat.zero_le _, rfl⟩
    obtain ⟨k, rfl, hk, hI⟩ := hi
    unfold R18_Valid_l2
    refine Ret.ifB (fun hlt => ?_) (fun hge => ?_)
    · rw [decide_eq_true_eq] at hlt
      have hk' : k < r.rows.length := by omega
      have hd : r.rows.drop k = r.rows[k] :: r.rows.drop (k + 1) := List.drop_eq_getElem_cons hk'
      rw [hd, rowsV] at hI
      have hw : (r.rows[k]).Ok := hok _ (List.getElem_mem hk')
      have hf := fine_eq (r.rows[k]).runs hw.2.1
      refine Ret.getI rfl hk' ?_
      have hj : R18_Valid_j1 r.rows[k] k r = some (!(okRow (prev r.rows k) r.rows[k])) := by
        refine Ret.eq ?_
        unfold R18_Valid_j1
        refine Ret.ifB (fun h => ?_) (fun h => ?_)
        · rw [decide_eq_true_eq] at h; refine Ret.mk ?_; unfold okRow; rw [decide_eq_false (show ¬ (-4096 : Int) ≤ (r.rows[k]).y by omega)]; simp
        rw [decide_eq_false_iff_not] at h
        refine Ret.ifB (fun h2 => ?_) (fun h2 => ?_)
        · rw [decide_eq_true_eq] at h2; refine Ret.mk ?_; unfold okRow; rw [decide_eq_false (show ¬ (r.rows[k]).y < 4096 by omega)]; simp
        rw [decide_eq_false_iff_not] at h2
        refine Ret.ifB (fun h4 => ?_) (fun h4 => ?_)
        · rw [decide_eq_true_eq] at h4
          refine Ret.chk (inR (by omega) (by omega)) (Ret.getI (k := k - 1) (by omega) (by omega) ?_)
          rw [prev_pos hk' (by omega)]
          refine Ret.ifB (fun h5 => ?_) (fun h5 => ?_)
          · rw [decide_eq_true_eq] at h5
            refine Ret.mk ?_; unfold okRow; simp only; rw [decide_eq_false (show ¬ (r.rows[k - 1]'(by omega)).y < (r.rows[k]).y by omega)]; simp
          · rw [decide_eq_false_iff_not] at h5
            refine Ret.bindE hf (Ret.mk ?_)
            unfold okRow; simp only
            rw [decide_eq_true (show (-4096 : Int) ≤ (r.rows[k]).y by omega), decide_eq_true (show (r.rows[k]).y < 4096 by omega), decide_eq_true (show (r.rows[k - 1]'(by omega)).y < (r.rows[k]).y by omega)]
            simp only [Bool.true_and]
        · rw [decide_eq_false_iff_not] at h4
          have : k = 0 := by omega
          subst this
          refine Ret.bindE hf (Ret.mk ?_)
          rw [prev_zero]
          unfold okRow; simp only
          rw [decide_eq_true (show (-4096 : Int) ≤ (r.rows[0]).y by omega), decide_eq_true (show (r.rows[0]).y < 4096 by omega)]
          simp only [Bool.true_and]
      refine Ret.bindE hj ?_
      refine Ret.ifB (fun h => ?_) (fun h => ?_)
      · refine Ret.mk ?_
        simp only [Bool.not_eq_true'] at h
        rw [h] at hI; simpa using hI.symm
      · refine Ret.chk (inR (by omega) (by omega)) (Ret.mk ⟨⟨k + 1, by omega, by omega, ?_⟩, by omega⟩)
        simp only [Bool.not_eq_false'] at h
        rw [h, Bool.true_and] at hI
        rw [prev_succ hk']; exact hI
    · rw [decide_eq_false_iff_not] at hge
      have : k = r.rows.length := by omega
      subst this
      rw [List.drop_length, rowsV] at hI
      exact Ret.mk hI.symm
  · cases o with
    | inl _ => exact Ret.mk ho.symm
    | inr _ => exact Ret.mk ho.symm
theorem runs_fits_eq (x : Run) : runs_fits x = some (decide (-1048576 ≤ x.frm ∧ x.frm ≤ 1048576 ∧ -1048576 ≤ x.to ∧ x.to ≤ 1048576)) := by
  refine Ret.eq ?_
  unfold runs_fits
  refine Ret.bind (Q' := fun b => b = decide (-1048576 ≤ x.frm ∧ x.frm ≤ 1048576 ∧ -1048576 ≤ x.to ∧ x.to ≤ 1048576)) ?_ (fun b hb => Ret.mk hb)
  unfold runs_fits_j1
  refine Ret.ifB (fun h => ?_) (fun h => Ret.mk ?_)
  · refine Ret.ifB (fun h2 => ?_) (fun h2 => Ret.mk ?_)
    · refine Ret.ifB (fun h3 => Ret.mk ?_) (fun h3 => Ret.mk ?_)
      · rw [decide_eq_true_eq] at h h2 h3; rw [Bool.eq_iff_iff, decide_eq_true_eq, decide_eq_true_eq]; omega
      · rw [decide_eq_false_iff_not] at h3; rw [eq_comm, decide_eq_false_iff_not]; omega
    · rw [decide_eq_false_iff_not] at h2; rw [eq_comm, decide_eq_false_iff_not]; omega
  · rw [decide_eq_false_iff_not] at h; rw [eq_comm, decide_eq_false_iff_not]; omega
theorem runs_Valid_eq (l : List Run) (hl : l.length ≤ maxLen) : runs_Valid l = some (runsV 1048576 none l) := by
  unfold maxLen at hl
  refine Ret.eq ?_
  unfold runs_Valid
  refine Ret.bind (Q' := fun o => runsV 1048576 none l = match o with | .inl _ => true | .inr _ => false) ?_ (fun o ho => ?_)
  · refine Ret.loop (I := fun i : Int => ∃ k : Nat, i = k ∧ k ≤ l.length ∧ runsV 1048576 (prev l k) (l.drop k) = runsV 1048576 none l) (μ := fun i : Int => l.length - i.toNat) (fun i hi => ?_) ⟨0, rfl, Nat.zero_le _, rfl⟩
    obtain ⟨k, rfl, hk, hI⟩ := hi
    unfold runs_Valid_l2
    refine Ret.ifB (fun hlt => ?_) (fun hge => ?_)
    · rw [decide_eq_true_eq] at hlt
      have hk' : k < l.length := by omega
      have hd : l.drop k = l[k] :: l.drop (k + 1) := List.drop_eq_getElem_cons hk'
      rw [hd, runsV] at hI
      refine Ret.getI rfl hk' ?_
      have hj : runs_Valid_j1 l[k] k l = some (!(okRun 1048576 (prev l k) l[k])) := by
        refine Ret.eq ?_
        unfold runs_Valid_j1
        refine Ret.ifB (fun h => ?_) (fun h => ?_)
        · rw [decide_eq_true_eq] at h; exact Ret.mk (by simp [okRun]; omega)
        rw [decide_eq_false_iff_not] at h
        refine Ret.bindE (runs_fits_eq _) ?_
        refine Ret.ifB (fun h2 => ?_) (fun h2 => ?_)
        · rw [Bool.not_eq_true', decide_eq_false_iff_not] at h2; exact Ret.mk (by simp [okRun]; omega)
        rw [Bool.not_eq_false', decide_eq_true_eq] at h2
        refine Ret.ifB (fun h4 => ?_) (fun h4 => ?_)
        · rw [decide_eq_true_eq] at h4
          refine Ret.chk (inR (by omega) (by omega)) (Ret.getI (k := k - 1) (by omega) (by omega) (Ret.mk ?_))
          rw [prev_pos hk' (by omega), Bool.eq_iff_iff]
          simp [okRun]; omega
        · rw [decide_eq_false_iff_not] at h4
          have : k = 0 := by omega
          subst this
          refine Ret.mk ?_
          simp [okRun, prev]; omega
      refine Ret.bindE hj ?_
      refine Ret.ifB (fun h => ?_) (fun h => ?_)
      · refine Ret.mk ?_
        simp only [Bool.not_eq_true'] at h
        rw [h] at hI; simpa using hI.symm
      · refine Ret.chk (inR (by omega) (by omega)) (Ret.mk ⟨⟨k + 1, by omega, by omega, ?_⟩, by omega⟩)
        simp only [Bool.not_eq_false'] at h
        rw [h, Bool.true_and] at hI
        rw [prev_succ hk']; exact hI
    · rw [decide_eq_false_iff_not] at hge
      have : k = l.length := by omega
      subst this
      rw [List.drop_length, runsV] at hI
      exact Ret.mk hI.symm
  · cases o with
    | inl _ => exact Ret.mk ho.symm
    | inr _ => exact Ret.mk ho.symm
theorem region_ok_eq (x : Int) : region_ok x = some (decide (-4096 ≤ x ∧ x < 4096)) := by
  refine Ret.eq ?_
  unfold region_ok
  refine Ret.bind (Q' := fun b => b = decide (-4096 ≤ x ∧ x < 4096)) ?_ (fun b hb => Ret.mk hb)
  unfold region_ok_j1
  refine Ret.ifB (fun h => Ret.mk ?_) (fun h => Ret.mk ?_)
  · rw [decide_eq_true_eq] at h; rw [Bool.eq_iff_iff, decide_eq_true_eq, decide_eq_true_eq]; omega
  · rw [decide_eq_false_iff_not] at h; rw [eq_comm, decide_eq_false_iff_not]; omega
theorem last_to {l : List Run} (hp : l.Pairwise (fun x y => x.to < y.frm)) (hin : ∀ x ∈ l, x.frm < x.to) {n : Nat} (hn : n + 1 = l.length) : ∀ x ∈ l, x.to ≤ (l[n]'(by omega)).to := fun x hx => by
  obtain ⟨i, hi, rfl⟩ := List.getElem_of_mem hx
  rcases Nat.lt_or_ge i n with h | h
  · have h1 := List.pairwise_iff_getElem.1 hp i n hi (by omega) h
    have h2 := hin l[n] (List.getElem_mem _)
    omega
  · have : i = n := by omega
    subst this; exact Int.le_refl _
theorem first_from {x : Run} {l : List Run} (hp : (x :: l).Pairwise (fun x y => x.to < y.frm)) (hin : x.frm < x.to) : ∀ y ∈ x :: l, x.frm ≤ y.frm := fun y hy => by
  rw [List.pairwise_cons] at hp
  rcases List.mem_cons.1 hy with rfl | hy
  · exact Int.le_refl _
  · have := hp.1 y hy; omega
theorem VReg_bounds {l : List Run} (h0 : l ≠ []) : runsV 4096 none l = (runsV 1048576 none l && decide ((-4096 : Int) ≤ (l[0]'(List.length_pos_iff.2 h0)).frm ∧ (l[0]'(List.length_pos_iff.2 h0)).frm < 4096) && decide ((-4096 : Int) ≤ (l[l.length - 1]'(by have := List.length_pos_iff.2 h0; omega)).to - 1 ∧ (l[l.length - 1]'(by have := List.length_pos_iff.2 h0; omega)).to - 1 < 4096)) := by
  have hp := List.length_pos_iff.2 h0
  rw [Bool.eq_iff_iff, Bool.and_eq_true, Bool.and_eq_true, runsV_none, runsV_none, decide_eq_true_eq, decide_eq_true_eq]
  constructor
  · rintro ⟨h1, h2⟩
    have q1 := h1 _ (List.getElem_mem hp)
    have q2 := h1 _ (List.getElem_mem (show l.length - 1 < l.length by omega))
    unfold RunIn at q1 q2
    exact ⟨⟨⟨fun x hx => by have := h1 x hx; unfold RunIn at this ⊢; omega, h2⟩, by omega⟩, by omega⟩
  · rintro ⟨⟨⟨h1, h2⟩, h3⟩, h4⟩
    refine ⟨fun x hx => ?_, h2⟩
    have q0 := h1 x hx
    have hin : ∀ x ∈ l, x.frm < x.to := fun x hx => (h1 x hx).2.1
    have q1 := last_to h2 hin (n := l.length - 1) (by omega) x hx
    have q2 : (l[0]'hp).frm ≤ x.frm := by
      cases l with
      | nil => exact absurd rfl h0
      | cons y l => exact first_from h2 (hin y (by simp)) x hx
    unfold RunIn at q0 ⊢
    omega
theorem region_Valid_eq (r : Region) (hr : r.Ok) : region_Valid r = some (validB r) := by
  have hl := hr.1
  have hok := hr.2
  unfold maxLen at hl
  refine Ret.eq ?_
  unfold region_Valid validB
  refine Ret.bind (Q' := fun o => rowsV none r.rows = match o with | .inl _ => true | .inr _ => false) ?_ (fun o ho => ?_)
  · refine Ret.loop (I := fun i : Int => ∃ k : Nat, i = k ∧ k ≤ r.rows.length ∧ rowsV (prev r.rows k) (r.rows.drop k) = rowsV none r.rows) (μ := fun i : Int => r.rows.length - i.toNat) (fun i hi => ?_) ⟨0, rfl, Nat.zero_le _, rfl⟩
    obtain ⟨k, rfl, hk, hI⟩ := hi
    unfold region_Valid_l3
    refine Ret.ifB (fun hlt => ?_) (fun hge => ?_)
    · rw [decide_eq_true_eq] at hlt
      have hk' : k < r.rows.length := by omega
      have hd : r.rows.drop k = r.rows[k] :: r.rows.drop (k + 1) := List.drop_eq_getElem_cons hk'
      rw [hd, rowsV] at hI
      have hw : (r.rows[k]).Ok := hok _ (List.getElem_mem hk')
      have hwl := hw.2.1
      have hv := runs_Valid_eq (r.rows[k]).runs hw.2.1
      unfold maxLen at hwl
      refine Ret.getI rfl hk' ?_
      generalize hB : r.rows[k] = w at hI hw hv hwl
      have hokr : okRow (prev r.rows k) w = (decide (-4096 ≤ w.y ∧ w.y < 4096) && (match prev r.rows k with | none => true | some v => decide (v.y < w.y)) && (decide (w.runs ≠ []) && runsV 4096 none w.runs)) := by
        unfold okRow
        congr 2
        rw [Bool.eq_iff_iff]; simp
      have hlen0 : (((w.runs.length : Int)) == 0) = decide (w.runs = []) := by
        rw [Bool.eq_iff_iff, beq_iff_eq, decide_eq_true_eq]
        cases w.runs with
        | nil => simp
        | cons a l => simp; omega
      have hj : region_Valid_j1 w k r = some (!(decide (-4096 ≤ w.y ∧ w.y < 4096) && (match prev r.rows k with | none => true | some v => decide (v.y < w.y)) && (decide (w.runs ≠ []) && runsV 1048576 none w.runs))) := by
        refine Ret.eq ?_
        unfold region_Valid_j1
        refine Ret.bindE (region_ok_eq _) ?_
        refine Ret.ifB (fun h => ?_) (fun h => ?_)
        · rw [Bool.not_eq_true'] at h; rw [h]; exact Ret.mk (by simp)
        rw [Bool.not_eq_false'] at h; rw [h]
        have tail : ∀ c : Bool, c = true → Ret (ifB ((w.runs.length : Int) == 0) (some true) ((runs_Valid w.runs).bind fun b1 => some (!b1))) (· = !(true && c && (decide (w.runs ≠ []) && runsV 1048576 none w.runs))) := fun c hc => by
          subst hc
          refine Ret.ifB (fun h => ?_) (fun h => ?_)
          · rw [hlen0, decide_eq_true_eq] at h; exact Ret.mk (by simp [h])
          · rw [hlen0, decide_eq_false_iff_not] at h
            refine Ret.bindE hv (Ret.mk ?_)
            simp [h]
        refine Ret.ifB (fun h4 => ?_) (fun h4 => ?_)
        · rw [decide_eq_true_eq] at h4
          refine Ret.chk (inR (by omega) (by omega)) (Ret.getI (k := k - 1) (by omega) (by omega) ?_)
          rw [prev_pos hk' (by omega)]
          refine Ret.ifB (fun h5 => ?_) (fun h5 => ?_)
          · rw [decide_eq_true_eq] at h5
            refine Ret.mk ?_
            simp only; rw [decide_eq_false (show ¬ (r.rows[k - 1]'(by omega)).y < w.y by omega)]; simp
          · rw [decide_eq_false_iff_not] at h5
            exact tail _ (by simp only; rw [decide_eq_true_eq]; omega)
        · rw [decide_eq_false_iff_not] at h4
          have : k = 0 := by omega
          subst this
          exact tail _ rfl
      refine Ret.bindE hj ?_
      refine Ret.ifB (fun h => ?_) (fun h => ?_)
      · refine Ret.mk ?_
        rw [Bool.not_eq_true'] at h
        have hbad : okRow (prev r.rows k) w = false := by
          rw [hokr]
          cases hn : decide (w.runs ≠ []) with
          | false => simp
          | true =>
            rw [decide_eq_true_eq] at hn
            rw [VReg_bounds hn]
            cases hrv : runsV 1048576 none w.runs with
            | false => simp
            | true => rw [hrv] at h; simp only [hn, ne_eq, not_false_eq_true, decide_true, Bool.and_true] at h; rw [h]; simp
        rw [hbad] at hI; simpa using hI.symm
      · rw [Bool.not_eq_false'] at h
        simp only [Bool.and_eq_true] at h
        obtain ⟨⟨h1, h2⟩, h3, h4⟩ := h
        rw [decide_eq_true_eq] at h3
        have hp := List.length_pos_iff.2 h3
        have hj2 : region_Valid_j2 w = some (!(decide ((-4096 : Int) ≤ (w.runs[0]'hp).frm ∧ (w.runs[0]'hp).frm < 4096) && decide ((-4096 : Int) ≤ (w.runs[w.runs.length - 1]'(by omega)).to - 1 ∧ (w.runs[w.runs.length - 1]'(by omega)).to - 1 < 4096))) := by
          refine Ret.eq ?_
          unfold region_Valid_j2
          refine Ret.getI (k := 0) rfl hp ?_
          refine Ret.bindE (region_ok_eq _) ?_
          refine Ret.ifB (fun h => ?_) (fun h => ?_)
          · rw [Bool.not_eq_true'] at h; rw [h]; exact Ret.mk (by simp)
          rw [Bool.not_eq_false'] at h; rw [h]
          refine Ret.chk (inR (by omega) (by omega)) (Ret.getI (k := w.runs.length - 1) (by omega) (by omega) ?_)
          have hin := runsV_none.1 h4
          have hb := hin.1 _ (List.getElem_mem (show w.runs.length - 1 < w.runs.length by omega))
          unfold RunIn at hb
          refine Ret.chk (inR (by omega) (by omega)) ?_
          refine Ret.bindE (region_ok_eq _) (Ret.mk ?_)
          simp
        refine Ret.bindE hj2 ?_
        have hok2 : okRow (prev r.rows k) w = (decide ((-4096 : Int) ≤ (w.runs[0]'hp).frm ∧ (w.runs[0]'hp).frm < 4096) && decide ((-4096 : Int) ≤ (w.runs[w.runs.length - 1]'(by omega)).to - 1 ∧ (w.runs[w.runs.length - 1]'(by omega)).to - 1 < 4096)) := by
          rw [hokr, VReg_bounds h3, h1, h2, h4]
          simp [h3]
        rw [← hok2]
        refine Ret.ifB (fun h => ?_) (fun h => ?_)
        · refine Ret.mk ?_
          rw [Bool.not_eq_true'] at h
          rw [h] at hI; simpa using hI.symm
        · refine Ret.chk (inR (by omega) (by omega)) (Ret.mk ⟨⟨k + 1, by omega, by omega, ?_⟩, by omega⟩)
          rw [Bool.not_eq_false'] at h
          rw [h, Bool.true_and] at hI
          rw [prev_succ hk', hB]; exact hI
    · rw [decide_eq_false_iff_not] at hge
      have : k = r.rows.length := by omega
      subst this
      rw [List.drop_length, rowsV] at hI
      exact Ret.mk hI.symm
  · cases o with
    | inl _ => exact Ret.mk ho.symm
    | inr _ => exact Ret.mk ho.symm
/-! ### Counting -/
def runsLen : List Run → Int
  | [] => 0
  | x :: l => (x.to - x.frm) + runsLen l
def rowsLen : List Row → Int
  | [] => 0
  | w :: l => runsLen w.runs + rowsLen l
theorem runsLen_nonneg : ∀ {l : List Run}, (∀ x ∈ l, x.frm < x.to) → 0 ≤ runsLen l
  | [], _ => Int.le_refl _
  | x :: l, h => by
    have h1 := h x (by simp)
    have h2 := runsLen_nonneg (l := l) fun y hy => h y (by simp [hy])
    unfold runsLen; omega
theorem rowsLen_nonneg : ∀ {l : List Row}, (∀ w ∈ l, RowIn w) → 0 ≤ rowsLen l
  | [], _ => Int.le_refl _
  | w :: l, h => by
    have h1 := h w (by simp)
    have h2 := rowsLen_nonneg (l := l) fun y hy => h y (by simp [hy])
    have h3 := runsLen_nonneg (l := w.runs) fun x hx => (h1.2.2.2.1 x hx).2.1
    unfold rowsLen; omega
def countR (r : Region) : Int := if validB r then rowsLen r.rows else 0
theorem R18_Count_eq (r : Region) (hr : r.Ok) (hb : validB r = true → rowsLen r.rows ≤ 4611686018427387904) : R18_Count r = some (countR r) := by
  have hl := hr.1
  have hok := hr.2
  unfold maxLen at hl
  refine Ret.eq ?_
  unfold R18_Count countR
  refine Ret.bindE (R18_Valid_eq r hr) ?_
  refine Ret.ifB (fun h => ?_) (fun h => ?_)
  · rw [Bool.not_eq_true'] at h; rw [h]; exact Ret.mk (by simp)
  rw [Bool.not_eq_false'] at h
  have hT := hb h
  rw [if_pos h]
  have hV := validB_iff.1 h
  refine Ret.bind (Q' := fun n => n = rowsLen r.rows) ?_ (fun n hn => Ret.mk hn)
  refine Ret.loop (I := fun s : Int × Int => ∃ k : Nat, s.2 = k ∧ k ≤ r.rows.length ∧ 0 ≤ s.1 ∧ s.1 + rowsLen (r.rows.drop k) = rowsLen r.rows) (μ := fun s : Int × Int => r.rows.length - s.2.toNat) (fun s hs => ?_) ⟨0, rfl, Nat.zero_le _, Int.le_refl _, by simp⟩
  obtain ⟨n, i⟩ := s
  obtain ⟨k, rfl, hk, hn0, hn⟩ := hs
  unfold R18_Count_l2
  simp only at hn0 hn ⊢
  refine Ret.ifB (fun hlt => ?_) (fun hge => ?_)
  · rw [decide_eq_true_eq] at hlt
    have hk' : k < r.rows.length := by omega
    have hd : r.rows.drop k = r.rows[k] :: r.rows.drop (k + 1) := List.drop_eq_getElem_cons hk'
    have hw := hV.1 _ (List.getElem_mem hk')
    have hw2 := (hok _ (List.getElem_mem hk')).2.1
    unfold maxLen at hw2
    rw [hd, rowsLen] at hn
    have hrest := rowsLen_nonneg (l := r.rows.drop (k + 1)) fun w hw => hV.1 w (List.mem_of_mem_drop hw)
    refine Ret.bind (Q' := fun m => m = n + runsLen (r.rows[k]).runs) ?_ (fun m hm => ?_)
    · refine Ret.loop (I := fun s : Int × Int => ∃ j : Nat, s.2 = j ∧ j ≤ (r.rows[k]).runs.length ∧ 0 ≤ s.1 ∧ s.1 + runsLen ((r.rows[k]).runs.drop j) = n + runsLen (r.rows[k]).runs) (μ := fun s : Int × Int => (r.rows[k]).runs.length - s.2.toNat) (fun s hs => ?_) ⟨0, rfl, Nat.zero_le _, hn0, by simp⟩
      obtain ⟨m, i⟩ := s
      obtain ⟨j, rfl, hj, hm0, hm⟩ := hs
      unfold R18_Count_l1
      simp only at hm0 hm ⊢
      refine Ret.getI rfl hk' ?_
      refine Ret.ifB (fun hlt => ?_) (fun hge => ?_)
      · rw [decide_eq_true_eq] at hlt
        have hj' : j < (r.rows[k]).runs.length := by omega
        have hd2 : (r.rows[k]).runs.drop j = (r.rows[k]).runs[j] :: (r.rows[k]).runs.drop (j + 1) := List.drop_eq_getElem_cons hj'
        rw [hd2, runsLen] at hm
        have hx := hw.2.2.2.1 _ (List.getElem_mem hj')
        have hrest2 := runsLen_nonneg (l := (r.rows[k]).runs.drop (j + 1)) fun x hx => (hw.2.2.2.1 x (List.mem_of_mem_drop hx)).2.1
        unfold RunIn at hx
        refine Ret.getI rfl hj' ?_
        refine Ret.chk (inR (by omega) (by omega)) (Ret.chk (inR (by omega) (by omega)) (Ret.chk (inR (by omega) (by omega)) (Ret.mk ⟨⟨j + 1, by simp, by omega, by simp only; omega, by simp only; omega⟩, by simp only; omega⟩)))
      · rw [decide_eq_false_iff_not] at hge
        have : j = (r.rows[k]).runs.length := by omega
        subst this
        rw [List.drop_length, runsLen] at hm
        exact Ret.mk (by omega)
    · subst hm
      have := runsLen_nonneg (l := (r.rows[k]).runs) fun x hx => (hw.2.2.2.1 x hx).2.1
      exact Ret.chk (inR (by omega) (by omega)) (Ret.mk ⟨⟨k + 1, by simp, by omega, by simp only; omega, by simp only; omega⟩, by simp only; omega⟩)
  · rw [decide_eq_false_iff_not] at hge
    have : k = r.rows.length := by omega
    subst this
    rw [List.drop_length, rowsLen] at hn
    exact Ret.mk (by omega)
def smallB (r : Region) : Bool := decide (r.rows.length ≤ 40) && r.rows.all (fun w => decide (w.runs.length ≤ 40)) && decide (countR r ≤ 600)
theorem runsLen_le {B : Int} (hB : 0 ≤ B) : ∀ {l : List Run}, (∀ x ∈ l, x.to - x.frm ≤ B) → runsLen l ≤ l.length * B
  | [], _ => by simp [runsLen]
  | x :: l, h => by
    have h1 := h x (by simp)
    have h2 := runsLen_le hB (l := l) fun y hy => h y (by simp [hy])
    have : ((x :: l).length : Int) * B = l.length * B + B := by rw [List.length_cons]; push_cast; rw [Int.add_mul]; omega
    unfold runsLen; omega
theorem rowsLen_le {B : Int} (hB : 0 ≤ B) : ∀ {l : List Row}, (∀ w ∈ l, runsLen w.runs ≤ B) → rowsLen l ≤ l.length * B
  | [], _ => by simp [rowsLen]
  | x :: l, h => by
    have h1 := h x (by simp)
    have h2 := rowsLen_le hB (l := l) fun y hy => h y (by simp [hy])
    have : ((x :: l).length : Int) * B = l.length * B + B := by rw [List.length_cons]; push_cast; rw [Int.add_mul]; omega
    unfold rowsLen; omega
theorem Small_eq (r : Region) (hr : r.Ok) : L18_Small r = some (smallB r) := by
  refine Ret.eq ?_
  unfold L18_Small smallB
  refine Ret.ifB (fun h => ?_) (fun h => ?_)
  · rw [decide_eq_true_eq] at h
    refine Ret.mk ?_
    rw [decide_eq_false (show ¬ r.rows.length ≤ 40 by omega)]; simp
  rw [decide_eq_false_iff_not] at h
  have hl : r.rows.length ≤ 40 := by omega
  rw [decide_eq_true hl, Bool.true_and]
  refine Ret.bind (Q' := fun o => r.rows.all (fun w => decide (w.runs.length ≤ 40)) = match o with | .inl _ => true | .inr _ => false) ?_ (fun o ho => ?_)
  · refine Ret.loop (I := fun i : Int => ∃ k : Nat, i = k ∧ k ≤ r.rows.length ∧ (r.rows.drop k).all (fun w => decide (w.runs.length ≤ 40)) = r.rows.all (fun w => decide (w.runs.length ≤ 40))) (μ := fun i : Int => r.rows.length - i.toNat) (fun i hi => ?_) ⟨0, rfl, Nat.zero_le _, rfl⟩
    obtain ⟨k, rfl, hk, hI⟩ := hi
    unfold L18_Small_l1
    refine Ret.ifB (fun hlt => ?_) (fun hge => ?_)
    · rw [decide_eq_true_eq] at hlt
      have hk' : k < r.rows.length := by omega
      have hd : r.rows.drop k = r.rows[k] :: r.rows.drop (k + 1) := List.drop_eq_getElem_cons hk'
      rw [hd, List.all_cons] at hI
      refine Ret.getI rfl hk' ?_
      refine Ret.ifB (fun h => ?_) (fun h => ?_)
      · rw [decide_eq_true_eq] at h
        rw [decide_eq_false (show ¬ (r.rows[k]).runs.length ≤ 40 by omega), Bool.false_and] at hI
        exact Ret.mk hI.symm
      · rw [decide_eq_false_iff_not] at h
        rw [decide_eq_true (show (r.rows[k]).runs.length ≤ 40 by omega), Bool.true_and] at hI
        exact Ret.chk (inR (by omega) (by omega)) (Ret.mk ⟨⟨k + 1, by omega, by omega, hI⟩, by omega⟩)
    · rw [decide_eq_false_iff_not] at hge
      have : k = r.rows.length := by omega
      subst this
      rw [List.drop_length, List.all_nil] at hI
      exact Ret.mk hI.symm
  · cases o with
    | inr _ => simp only at ho; rw [ho]; exact Ret.mk rfl
    | inl _ =>
      simp only at ho
      have hall : ∀ w ∈ r.rows, w.runs.length ≤ 40 := fun w hw => by
        have := List.all_eq_true.1 ho w hw
        simpa using this
      rw [ho, Bool.true_and]
      refine Ret.bindE (R18_Count_eq r hr fun hv => ?_) (Ret.mk rfl)
      have hV := validB_iff.1 hv
      have h1 : ∀ w ∈ r.rows, runsLen w.runs ≤ 40 * 8192 := fun w hw => by
        have := runsLen_le (B := 8192) (by decide) (l := w.runs) fun x hx => by have := (hV.1 w hw).2.2.2.1 x hx; unfold RunIn at this; omega
        have := hall w hw
        omega
      have := rowsLen_le (by decide) h1
      omega
end Go.AM
end
section
namespace Go.AM
open Go
def inRuns (l : List Run) (t : Int) : Prop := ∃ x ∈ l, x.frm ≤ t ∧ t < x.to
/-- The bounds of runs. -/
def fb : List Run → List Int
  | [] => []
  | x :: l => x.frm :: x.to :: fb l
/-- Inside, by the bounds to come: s: inside ahead of them. -/
def inB (s : Bool) : List Int → Int → Bool
  | [], _ => s
  | b :: P, t => if t < b then s else inB (!s) P t
/-- Rising, from above c on. -/
def Rising (c : Int) : List Int → Prop
  | [] => True
  | b :: P => c < b ∧ Rising b P
theorem Rising.all {c : Int} : ∀ {P : List Int}, Rising c P → ∀ b ∈ P, c < b
  | [], _, b, hb => by cases hb
  | a :: P, h, b, hb => by
    rcases List.mem_cons.1 hb with rfl | hb
    · exact h.1
    · have := h.2.all b hb; have := h.1; omega
theorem Rising.low {c d : Int} (hd : d ≤ c) : ∀ {P : List Int}, Rising c P → Rising d P
  | [], _ => trivial
  | a :: P, h => ⟨by have := h.1; omega, h.2⟩
theorem inB_below {c : Int} {s : Bool} : ∀ {P : List Int}, Rising c P → ∀ t, t ≤ c → inB s P t = s
  | [], _, _, _ => rfl
  | a :: P, h, t, ht => by rw [inB, if_pos (by have := h.1; omega)]
theorem inB_snoc {s : Bool} : ∀ {E : List Int} {x t : Int}, t < x → inB s (E ++ [x]) t = inB s E t
  | [], x, t, h => by simp [inB, h]
  | a :: E, x, t, h => by
    simp only [List.cons_append, inB]
    by_cases h2 : t < a
    · rw [if_pos h2, if_pos h2]
    · rw [if_neg h2, if_neg h2]; exact inB_snoc h
theorem inB_snoc_ge {s : Bool} : ∀ {E : List Int} {x t : Int}, (∀ e ∈ E, e ≤ x) → x ≤ t → inB s (E ++ [x]) t = !(inB s E t)
  | [], x, t, _, h => by simp [inB, show ¬ t < x by omega]
  | a :: E, x, t, hE, h => by
    have ha := hE a (by simp)
    simp only [List.cons_append, inB]
    rw [if_neg (by omega), if_neg (by omega)]
    exact inB_snoc_ge (fun e he => hE e (by simp [he])) h
theorem fb_len : ∀ (l : List Run), (fb l).length = 2 * l.length
  | [] => rfl
  | x :: l => by simp only [fb, List.length_cons, fb_len l]; omega
theorem fb_even : ∀ {l : List Run} {k : Nat} (hk : k < l.length), (fb l)[2 * k]? = some l[k].frm
  | [], k, hk => absurd hk (Nat.not_lt_zero _)
  | x :: l, 0, _ => rfl
  | x :: l, k + 1, hk => by
    rw [show 2 * (k + 1) = 2 * k + 1 + 1 by omega, fb, List.getElem?_cons_succ, List.getElem?_cons_succ, fb_even (by simpa using hk)]; rfl
theorem fb_odd : ∀ {l : List Run} {k : Nat} (hk : k < l.length), (fb l)[2 * k + 1]? = some l[k].to
  | [], k, hk => absurd hk (Nat.not_lt_zero _)
  | x :: l, 0, _ => rfl
  | x :: l, k + 1, hk => by
    rw [show 2 * (k + 1) + 1 = 2 * k + 1 + 1 + 1 by omega, fb, List.getElem?_cons_succ, List.getElem?_cons_succ, fb_odd (by simpa using hk)]; rfl
theorem fb_append : ∀ (l m : List Run), fb (l ++ m) = fb l ++ fb m
  | [], m => rfl
  | x :: l, m => by simp only [List.cons_append, fb, fb_append l m]
theorem rising_fb {B : Int} : ∀ {l : List Run} {c : Int}, (∀ x ∈ l, RunIn B x) → l.Pairwise (fun x y => x.to < y.frm) → (∀ x ∈ l, c < x.frm) → Rising c (fb l)
  | [], c, _, _, _ => trivial
  | x :: l, c, h1, h2, h3 => by
    rw [List.pairwise_cons] at h2
    exact ⟨h3 x (by simp), (h1 x (by simp)).2.1, rising_fb (fun y hy => h1 y (by simp [hy])) h2.2 h2.1⟩
/-- Inside the runs: inside by the bounds. -/
theorem inB_fb : ∀ {l : List Run} {c : Int}, Rising c (fb l) → ∀ t, inB false (fb l) t = true ↔ inRuns l t
  | [], c, _, t => by simp [fb, inB, inRuns]
  | x :: l, c, h, t => by
    have h2 : Rising x.to (fb l) := h.2.2
    have ih := inB_fb h2 t
    have hx : x.frm < x.to := h.2.1
    simp only [fb, inB, Bool.not_false, Bool.not_true]
    by_cases h3 : t < x.frm
    · rw [if_pos h3]
      constructor
      · intro h; cases h
      · rintro ⟨y, hy, hy1, hy2⟩
        rcases List.mem_cons.1 hy with rfl | hy
        · omega
        · have : inB false (fb l) t = true := ih.2 ⟨y, hy, hy1, hy2⟩
          rw [inB_below h2 t (by omega)] at this; cases this
    · rw [if_neg h3]
      by_cases h4 : t < x.to
      · rw [if_pos h4]; exact ⟨fun _ => ⟨x, by simp, by omega, h4⟩, fun _ => rfl⟩
      · rw [if_neg h4, ih]
        constructor
        · rintro ⟨y, hy, q⟩; exact ⟨y, by simp [hy], q⟩
        · rintro ⟨y, hy, q1, q2⟩
          rcases List.mem_cons.1 hy with rfl | hy
          · omega
          · exact ⟨y, hy, q1, q2⟩
theorem of_rising_fb : ∀ {l : List Run} {c : Int}, Rising c (fb l) → (∀ x ∈ l, c < x.frm ∧ x.frm < x.to) ∧ l.Pairwise (fun x y => x.to < y.frm)
  | [], c, _ => ⟨(fun _ h => by cases h), List.Pairwise.nil⟩
  | x :: l, c, h => by
    obtain ⟨h1, h2, h3⟩ := h
    obtain ⟨q1, q2⟩ := of_rising_fb h3
    refine ⟨fun y hy => ?_, List.pairwise_cons.2 ⟨fun y hy => (q1 y hy).1, q2⟩⟩
    rcases List.mem_cons.1 hy with rfl | hy
    · exact ⟨h1, h2⟩
    · have := q1 y hy; omega
/-- How many runs there can be. -/
theorem runs_few {B : Int} : ∀ {l : List Run} {c : Int}, c ≤ B → (∀ x ∈ l, RunIn B x ∧ c ≤ x.frm) → l.Pairwise (fun x y => x.to < y.frm) → (l.length : Int) ≤ B - c
  | [], c, hc, _, _ => by simp; omega
  | x :: l, c, hc, h1, h2 => by
    rw [List.pairwise_cons] at h2
    obtain ⟨⟨q1, q2, q3⟩, q4⟩ := h1 x (by simp)
    have := runs_few (l := l) (c := c + 1) (B := B) (by omega) (fun y hy => ⟨(h1 y (by simp [hy])).1, by have := h2.1 y hy; omega⟩) h2.2
    simp only [List.length_cons]; push_cast; omega
theorem runsV_few {B : Int} (hB : 0 ≤ B) {l : List Run} (h : runsV B none l = true) : (l.length : Int) ≤ 2 * B := by
  obtain ⟨h1, h2⟩ := runsV_none.1 h
  have := runs_few (c := -B) (by omega) (fun x hx => ⟨h1 x hx, (h1 x hx).1⟩) h2
  omega
/-! ### The bounds' words -/
theorem over_eq (l : List Run) (hl : (l.length : Int) ≤ 2097152) (k : Nat) : runs_bounds_over l k = some (decide (k = 2 * l.length)) := by
  refine Ret.eq ?_
  unfold runs_bounds_over
  refine Ret.chk (inR (by omega) (by omega)) (Ret.mk ?_)
  rw [Bool.eq_iff_iff, beq_iff_eq, decide_eq_true_eq]; omega
theorem tmod2 (k : Nat) : ((k : Int).tmod 2) = ((k % 2 : Nat) : Int) := by rw [Int.tmod_eq_emod_of_nonneg (by omega)]; omega
theorem tdiv2 (k : Nat) : ((k : Int).tdiv 2) = ((k / 2 : Nat) : Int) := by rw [Int.tdiv_eq_ediv_of_nonneg (by omega)]; omega
theorem inside_eq (l : List Run) (k : Nat) : runs_bounds_inside l k = some (decide (k % 2 = 1)) := by
  refine Ret.eq ?_
  unfold runs_bounds_inside
  refine Ret.mk ?_
  rw [tmod2, Bool.eq_iff_iff, beq_iff_eq, decide_eq_true_eq]; omega
/-- The next bound, or beyond all. -/
def nb (P : List Int) : Int := match P with | [] => 1048577 | b :: _ => b
theorem next_eq (l : List Run) (hl : (l.length : Int) ≤ 2097152) (k : Nat) (hk : k ≤ 2 * l.length) : runs_bounds_next l k = some (nb ((fb l).drop k)) := by
  refine Ret.eq ?_
  unfold runs_bounds_next
  refine Ret.bindE (over_eq l hl k) ?_
  refine Ret.ifB (fun h => ?_) (fun h => ?_)
  · rw [decide_eq_true_eq] at h
    subst h
    rw [List.drop_eq_nil_of_le (by rw [fb_len]; omega)]; exact Ret.mk rfl
  · rw [decide_eq_false_iff_not] at h
    have hk' : k < (fb l).length := by rw [fb_len]; omega
    have hd : (fb l).drop k = (fb l)[k] :: (fb l).drop (k + 1) := List.drop_eq_getElem_cons hk'
    rw [hd, nb]
    refine Ret.bindE (inside_eq l k) ?_
    rw [tdiv2]
    refine Ret.ifB (fun h2 => ?_) (fun h2 => ?_)
    · rw [decide_eq_true_eq] at h2
      refine Ret.chk ⟨by decide, inR (by omega) (by omega)⟩ (Ret.getI (k := k / 2) rfl (by omega) (Ret.mk ?_))
      have h3 := fb_odd (l := l) (k := k / 2) (by omega)
      rw [show 2 * (k / 2) + 1 = k by omega, List.getElem?_eq_getElem hk'] at h3
      exact (Option.some.inj h3).symm
    · rw [decide_eq_false_iff_not] at h2
      refine Ret.chk ⟨by decide, inR (by omega) (by omega)⟩ (Ret.getI (k := k / 2) rfl (by omega) (Ret.mk ?_))
      have h3 := fb_even (l := l) (k := k / 2) (by omega)
      rw [show 2 * (k / 2) = k by omega, List.getElem?_eq_getElem hk'] at h3
      exact (Option.some.inj h3).symm
theorem pass_eq (l : List Run) (hl : (l.length : Int) ≤ 2097152) (k : Nat) (hk : k ≤ 2 * l.length) (x : Int) : runs_bounds_pass l k x = some (if nb ((fb l).drop k) = x then (k : Int) + 1 else k) := by
  refine Ret.eq ?_
  unfold runs_bounds_pass
  refine Ret.bindE (next_eq l hl k hk) ?_
  refine Ret.ifB (fun h => ?_) (fun h => ?_)
  · rw [beq_iff_eq] at h; rw [if_pos h]; exact Ret.chk (inR (by omega) (by omega)) (Ret.mk rfl)
  · have h' : ¬ nb ((fb l).drop k) = x := fun e => by rw [e] at h; simp at h
    rw [if_neg h']; exact Ret.mk rfl
theorem sub1_eq (a b : Bool) : runs_Subtract_1 a b = some (a && !b) := by cases a <;> cases b <;> rfl
/-- One side of the sweep: behind c, at place k. -/
structure Side (l : List Run) (c : Int) (k : Nat) : Prop where
  le : k ≤ 2 * l.length
  rise : Rising c ((fb l).drop k)
  same : ∀ t, c ≤ t → inB false (fb l) t = inB (decide (k % 2 = 1)) ((fb l).drop k) t
  hi : ∀ b ∈ fb l, b ≤ 1048576
theorem Side.next {l : List Run} {c : Int} {k : Nat} (h : Side l c k) {x : Int} (hx : x ≤ nb ((fb l).drop k)) (hc : c < x) (hx2 : x ≤ 1048576) : Side l x (if nb ((fb l).drop k) = x then k + 1 else k) := by
  cases hd : (fb l).drop k with
  | nil =>
    rw [hd] at hx
    rw [if_neg (by rw [nb]; omega)]
    refine ⟨h.le, by rw [hd]; trivial, fun t ht => ?_, h.hi⟩
    rw [h.same t (by omega)]
  | cons b P =>
    have hk : k < 2 * l.length := by
      rcases Nat.lt_or_ge k (2 * l.length) with h1 | h1
      · exact h1
      · rw [List.drop_eq_nil_of_le (by rw [fb_len]; exact h1)] at hd; cases hd
    have hP : (fb l).drop (k + 1) = P := by rw [← List.tail_drop, hd]; rfl
    have hr := h.rise
    rw [hd] at hr hx
    have hx' : b ≤ x ∨ x ≤ b := Int.le_total _ _
    replace hx : x ≤ b := hx
    by_cases e : nb (b :: P) = x
    · rw [if_pos e]
      replace e : b = x := e
      subst e
      refine ⟨by omega, by rw [hP]; exact hr.2, fun t ht => ?_, h.hi⟩
      rw [h.same t (by omega), hd, hP, inB, if_neg (by omega)]
      congr 1
      rw [Bool.eq_iff_iff, Bool.not_eq_true', decide_eq_false_iff_not, decide_eq_true_eq]; omega
    · rw [if_neg e]
      replace e : b ≠ x := e
      refine ⟨h.le, by rw [hd]; exact ⟨by omega, hr.2⟩, fun t ht => ?_, h.hi⟩
      rw [h.same t (by omega)]
theorem Side.start {l : List Run} (h : runsV 1048576 none l = true) : Side l (-1048577) 0 := by
  obtain ⟨h1, h2⟩ := runsV_none.1 h
  refine ⟨Nat.zero_le _, rising_fb h1 h2 fun x hx => by have := (h1 x hx).1; omega, fun t _ => rfl, fun b hb => ?_⟩
  clear h h2
  induction l with
  | nil => cases hb
  | cons x l ih =>
    simp only [fb, List.mem_cons] at hb
    have := h1 x (by simp)
    unfold RunIn at this
    rcases hb with rfl | rfl | hb
    · omega
    · omega
    · exact ih (fun y hy => h1 y (by simp [hy])) hb
/-- What has come out: E, its bounds; o: is the last run open? -/
def OutIs (out : List Run) (o : Bool) (E : List Int) : Prop := (o = false ∧ E = fb out) ∨ (o = true ∧ ∃ m x z, out = m ++ [⟨x, z⟩] ∧ E = fb m ++ [x])
theorem sweep_eq (a b : List Run) (ha : runsV 1048576 none a = true) (hb : runsV 1048576 none b = true) :
    Ret (runs_sweep a b) fun out => runsV 1048576 none out = true ∧ ∀ t, inRuns out t ↔ inRuns a t ∧ ¬ inRuns b t := by
  have la := runsV_few (by decide) ha
  have lb := runsV_few (by decide) hb
  have la' : (a.length : Int) ≤ 2097152 := by omega
  have lb' : (b.length : Int) ≤ 2097152 := by omega
  unfold runs_sweep
  have hj1 : runs_sweep_j1 a b = some false := by
    refine Ret.eq ?_
    unfold runs_sweep_j1
    refine Ret.bindE (runs_Valid_eq a (by unfold maxLen; omega)) ?_
    rw [ha]
    refine Ret.ifF rfl ?_
    refine Ret.bindE (runs_Valid_eq b (by unfold maxLen; omega)) ?_
    rw [hb]; exact Ret.mk rfl
  refine Ret.bindE hj1 (Ret.ifF rfl ?_)
  refine Ret.bind (Q' := fun out => runsV 1048576 none out = true ∧ ∀ t, inRuns out t ↔ inRuns a t ∧ ¬ inRuns b t) ?_ (fun out h => Ret.mk h)
  refine Ret.loop (I := fun s : List Run × Bool × Int × Int => ∃ (p q : Nat) (c : Int) (E : List Int), s.2.2.1 = p ∧ s.2.2.2 = q ∧ Side a c p ∧ Side b c q ∧ -1048577 ≤ c ∧ c ≤ 1048576 ∧ s.2.1 = (decide (p % 2 = 1) && !(decide (q % 2 = 1))) ∧
      OutIs s.1 s.2.1 E ∧ Rising (-1048577) E ∧ (∀ e ∈ E, e ≤ c) ∧ (∀ t, c ≤ t → inB false E t = s.2.1) ∧ (∀ t, t < c → inB false E t = (inB false (fb a) t && !(inB false (fb b) t))) ∧ (s.1.length : Int) ≤ p + q)
    (μ := fun s : List Run × Bool × Int × Int => (2 * a.length - s.2.2.1.toNat) + (2 * b.length - s.2.2.2.toNat)) (fun s hs => ?_) ⟨0, 0, -1048577, [], rfl, rfl, Side.start ha, Side.start hb, by omega, by omega, rfl, .inl ⟨rfl, rfl⟩, trivial, (fun e he => by cases he), fun t _ => rfl, fun t ht => ?_, by simp⟩
  · obtain ⟨out, o, pi, qi⟩ := s
    obtain ⟨p, q, c, E, rfl, rfl, hA, hB, hc0, hc1, ho, hE, hr, hEc, hge, hlt, hlen⟩ := hs
    simp only at ho hE hge hlen
    unfold runs_sweep_l6
    have hp := hA.le
    have hq := hB.le
    have hj2 : runs_sweep_j2 a p b q = some (!(decide (p = 2 * a.length) && decide (q = 2 * b.length))) := by
      refine Ret.eq ?_
      unfold runs_sweep_j2
      refine Ret.bindE (over_eq a la' p) ?_
      refine Ret.ifB (fun h => ?_) (fun h => ?_)
      · rw [Bool.not_eq_true'] at h; rw [h]; exact Ret.mk (by simp)
      · rw [Bool.not_eq_false'] at h; rw [h]
        exact Ret.bindE (over_eq b lb' q) (Ret.mk (by simp))
    refine Ret.bindE hj2 ?_
    refine Ret.ifB (fun h => ?_) (fun h => ?_)
    · rw [Bool.not_eq_true', Bool.and_eq_false_iff, decide_eq_false_iff_not, decide_eq_false_iff_not] at h
      refine Ret.bindE (next_eq a la' p hp) (Ret.bindE (next_eq b lb' q hq) ?_)
      -- the next bound
      have hx : c < min (nb ((fb a).drop p)) (nb ((fb b).drop q)) ∧ min (nb ((fb a).drop p)) (nb ((fb b).drop q)) ≤ 1048576 ∧ (nb ((fb a).drop p) = min (nb ((fb a).drop p)) (nb ((fb b).drop q)) ∧ p < 2 * a.length ∨ nb ((fb b).drop q) = min (nb ((fb a).drop p)) (nb ((fb b).drop q)) ∧ q < 2 * b.length) := by
        have key : ∀ {l : List Run} {k : Nat}, Side l c k → c < nb ((fb l).drop k) ∧ (k < 2 * l.length → nb ((fb l).drop k) ≤ 1048576) ∧ (k = 2 * l.length → nb ((fb l).drop k) = 1048577) := fun {l k} hS => by
          cases hd : (fb l).drop k with
          | nil =>
            refine ⟨by simp only [nb]; omega, fun hk => ?_, fun _ => rfl⟩
            have : (fb l).length ≤ k := by rw [List.drop_eq_nil_iff] at hd; exact hd
            rw [fb_len] at this; omega
          | cons x P =>
            have h1 := hS.rise; rw [hd] at h1
            refine ⟨h1.1, fun _ => hS.hi x (List.mem_of_mem_drop (by rw [hd]; simp)), fun hk => ?_⟩
            rw [List.drop_eq_nil_of_le (by rw [fb_len]; omega)] at hd; cases hd
        obtain ⟨a1, a2, a3⟩ := key hA
        obtain ⟨b1, b2, b3⟩ := key hB
        rcases Nat.lt_or_ge p (2 * a.length) with hp' | hp' <;> rcases Nat.lt_or_ge q (2 * b.length) with hq' | hq'
        · have := a2 hp'; have := b2 hq'
          refine ⟨by omega, by omega, ?_⟩
          rcases Int.le_total (nb ((fb a).drop p)) (nb ((fb b).drop q)) with h1 | h1
          · exact .inl ⟨by omega, hp'⟩
          · exact .inr ⟨by omega, hq'⟩
        · have := a2 hp'; have := b3 (by omega)
          exact ⟨by omega, by omega, .inl ⟨by omega, hp'⟩⟩
        · have := a3 (by omega); have := b2 hq'
          exact ⟨by omega, by omega, .inr ⟨by omega, hq'⟩⟩
        · exfalso; omega
      obtain ⟨hcx, hx1, hor⟩ := hx
      have hxa : min (nb ((fb a).drop p)) (nb ((fb b).drop q)) ≤ nb ((fb a).drop p) := Int.min_le_left _ _
      have hxb : min (nb ((fb a).drop p)) (nb ((fb b).drop q)) ≤ nb ((fb b).drop q) := Int.min_le_right _ _
      have hA2 := hA.next hxa hcx hx1
      have hB2 := hB.next hxb hcx hx1
      refine Ret.bindE (pass_eq a la' p hp _) (Ret.bindE (pass_eq b lb' q hq _) ?_)
      have hna : (if nb ((fb a).drop p) = min (nb ((fb a).drop p)) (nb ((fb b).drop q)) then (p : Int) + 1 else (p : Int)) = ((if nb ((fb a).drop p) = min (nb ((fb a).drop p)) (nb ((fb b).drop q)) then p + 1 else p : Nat) : Int) := by split <;> simp
      have hnb : (if nb ((fb b).drop q) = min (nb ((fb a).drop p)) (nb ((fb b).drop q)) then (q : Int) + 1 else (q : Int)) = ((if nb ((fb b).drop q) = min (nb ((fb a).drop p)) (nb ((fb b).drop q)) then q + 1 else q : Nat) : Int) := by split <;> simp
      rw [hna, hnb]
      have hp2 : (if nb ((fb a).drop p) = min (nb ((fb a).drop p)) (nb ((fb b).drop q)) then p + 1 else p) + (if nb ((fb b).drop q) = min (nb ((fb a).drop p)) (nb ((fb b).drop q)) then q + 1 else q) ≥ p + q + 1 := by
        rcases hor with h1 | h1
        · rw [if_pos h1.1]; split <;> omega
        · rw [if_pos h1.1]; split <;> omega
      revert hA2 hB2 hp2
      generalize (if nb ((fb a).drop p) = min (nb ((fb a).drop p)) (nb ((fb b).drop q)) then p + 1 else p) = p'
      generalize (if nb ((fb b).drop q) = min (nb ((fb a).drop p)) (nb ((fb b).drop q)) then q + 1 else q) = q'
      intro hA2 hB2 hp2
      refine Ret.bindE (inside_eq a p') (Ret.bindE (inside_eq b q') (Ret.bindE (sub1_eq _ _) ?_))
      generalize hx0 : min (nb ((fb a).drop p)) (nb ((fb b).drop q)) = x at hcx hx1 hA2 hB2 hxa hxb
      -- the interval from c to x
      have hmid : ∀ t, c ≤ t → t < x → inB false E t = (inB false (fb a) t && !(inB false (fb b) t)) := fun t h1 h2 => by
        rw [hge t h1, ho, hA.same t h1, hB.same t h1]
        have key : ∀ {l : List Run} {k : Nat}, Side l c k → x ≤ nb ((fb l).drop k) → inB (decide (k % 2 = 1)) ((fb l).drop k) t = decide (k % 2 = 1) := fun {l k} hS hxk => by
          cases hd : (fb l).drop k with
          | nil => rfl
          | cons y P => rw [hd, nb] at hxk; rw [inB, if_pos (by omega)]
        rw [key hA hxa, key hB hxb]
      have hlt2 : ∀ t, t < x → inB false E t = (inB false (fb a) t && !(inB false (fb b) t)) := fun t h2 => by
        rcases Int.lt_or_le t c with h1 | h1
        · exact hlt t h1
        · exact hmid t h1 h2
      have hEx : ∀ e ∈ E, e ≤ x := fun e he => by have := hEc e he; omega
      have hrise : Rising (-1048577) (E ++ [x]) := by
        clear hE hge hlt hmid hlt2 hEx
        have : ∀ (E : List Int) (d : Int), d < x → Rising d E → (∀ e ∈ E, e ≤ c) → Rising d (E ++ [x]) := by
          intro E
          induction E with
          | nil => intro d hd _ _; exact ⟨hd, trivial⟩
          | cons e E ih => intro d hd h1 h2; exact ⟨h1.1, ih e (by have := h2 e (by simp); omega) h1.2 fun z hz => h2 z (by simp [hz])⟩
        exact this E _ (by omega) hr hEc
      generalize hnow : (decide (p' % 2 = 1) && !(decide (q' % 2 = 1))) = now
      have hle1 := hA2.le
      have hle2 := hB2.le
      -- what comes out
      have hj5 : Ret (runs_sweep_j5 now o out (nb ((fb a).drop p)) (nb ((fb b).drop q))) fun out' => (now = o ∧ out' = out) ∨ (now ≠ o ∧ OutIs out' now (E ++ [x]) ∧ (out'.length : Int) ≤ out.length + 1) := by
        unfold runs_sweep_j5
        rw [hx0]
        cases now with
        | true =>
          cases o with
          | true => exact Ret.bindE (show runs_sweep_j3 true true = some false from rfl) (Ret.ifF rfl (Ret.bindE (show runs_sweep_j4 true true = some false from rfl) (Ret.ifF rfl (Ret.mk (.inl ⟨rfl, rfl⟩)))))
          | false =>
            refine Ret.bindE (show runs_sweep_j3 true false = some true from rfl) (Ret.ifT rfl (Ret.chk (by simp only [List.length_cons, List.length_nil]; omega) (Ret.mk (.inr ⟨by simp, .inr ⟨rfl, out, x, 0, rfl, ?_⟩, by simp⟩))))
            rcases hE with ⟨_, rfl⟩ | ⟨h1, _⟩
            · rfl
            · cases h1
        | false =>
          cases o with
          | false => exact Ret.bindE (show runs_sweep_j3 false false = some false from rfl) (Ret.ifF rfl (Ret.bindE (show runs_sweep_j4 false false = some false from rfl) (Ret.ifF rfl (Ret.mk (.inl ⟨rfl, rfl⟩)))))
          | true =>
            rcases hE with ⟨h1, _⟩ | ⟨_, m, y, z, rfl, rfl⟩
            · cases h1
            refine Ret.bindE (show runs_sweep_j3 false true = some false from rfl) (Ret.ifF rfl (Ret.bindE (show runs_sweep_j4 false true = some true from rfl) (Ret.ifT rfl ?_)))
            have e1 : (((m ++ [(⟨y, z⟩ : Run)]).length : Int) - 1) = (m.length : Nat) := by simp
            rw [e1]
            refine Ret.chk (inR (by omega) (by simp only [List.length_append, List.length_cons, List.length_nil] at hlen; omega)) (Ret.getI (k := m.length) rfl (by simp) (Ret.mk (.inr ⟨by simp, .inl ⟨rfl, ?_⟩, by simp; omega⟩)))
            rw [Int.toNat_natCast]
            simp [fb_append, fb, List.append_assoc]
      refine Ret.bind hj5 (fun out' hout => ?_)
      refine Ret.mk ⟨?_, by simp only; omega⟩
      rcases hout with ⟨rfl, rfl⟩ | ⟨hne, hE', hl'⟩
      · refine ⟨p', q', x, E, rfl, rfl, hA2, hB2, by omega, hx1, hnow.symm, hE, hr, hEx, fun t ht => hge t (by omega), hlt2, by simp only; omega⟩
      · refine ⟨p', q', x, E ++ [x], rfl, rfl, hA2, hB2, by omega, hx1, hnow.symm, hE', hrise, fun e he => ?_, fun t ht => ?_, fun t ht => ?_, by simp only; omega⟩
        · rcases List.mem_append.1 he with he | he
          · exact hEx e he
          · simp at he; omega
        · rw [inB_snoc_ge hEx ht, hge t (by omega)]
          simp only
          cases now <;> cases o <;> simp_all
        · rw [inB_snoc ht]; exact hlt2 t ht
    · rw [Bool.not_eq_false', Bool.and_eq_true, decide_eq_true_eq, decide_eq_true_eq] at h
      obtain ⟨rfl, rfl⟩ := h
      have e1 : (2 * a.length) % 2 = 0 := by omega
      have e2 : (2 * b.length) % 2 = 0 := by omega
      rw [e1, e2] at ho
      have ho' : o = false := by rw [ho]; rfl
      subst ho'
      rcases hE with ⟨_, rfl⟩ | ⟨h1, _⟩
      · refine Ret.mk ⟨?_, fun t => ?_⟩
        · obtain ⟨q1, q2⟩ := of_rising_fb hr
          rw [runsV_none]
          refine ⟨fun x hx => ?_, q2⟩
          have h1 := q1 x hx
          have h2 : x.to ≤ c := by
            refine hEc _ ?_
            clear hr hEc hge hlt q1 q2 hlen
            induction out with
            | nil => cases hx
            | cons y l ih =>
              rcases List.mem_cons.1 hx with rfl | hx
              · simp [fb]
              · simp [fb, ih hx]
          unfold RunIn; omega
        · rw [← inB_fb hr t, ← inB_fb (Side.start ha).rise t, ← inB_fb (Side.start hb).rise t]
          rcases Int.lt_or_le t c with h1 | h1
          · rw [hlt t h1]; simp
          · rw [hge t h1, hA.same t h1, hB.same t h1]
            rw [List.drop_eq_nil_of_le (by rw [fb_len]; omega), List.drop_eq_nil_of_le (by rw [fb_len]; omega), inB, inB, e1, e2]
            simp
      · cases h1
  · have h1 := inB_below (s := false) (Side.start ha).rise t (by omega)
    rw [List.drop_zero] at h1
    rw [h1]; rfl
theorem Subtract_eq (a b : List Run) (ha : runsV 1048576 none a = true) (hb : runsV 1048576 none b = true) :
    Ret (runs_Subtract a b) fun out => runsV 1048576 none out = true ∧ ∀ t, inRuns out t ↔ inRuns a t ∧ ¬ inRuns b t := by
  unfold runs_Subtract
  exact Ret.bind (sweep_eq a b ha hb) fun out h => Ret.mk h
end Go.AM
end
