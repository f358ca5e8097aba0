/- Steps that turn only what is said of the state: leaving out, giving other numbers, taking an empty slice as a row of the call's own, taking a row as pure data. -/
import Derived.Test.YtijdlphadhpabaaA5
section
namespace Go.AM
open Go Go.RowKit
mutual
def AV.ren (r : Nat → Nat) : AV → AV
  | .p v => .p v
  | .agg cs => .agg (AV.renL r cs)
  | .tup vs => .tup (AV.renL r vs)
  | .ptr id off => .ptr (r id) off
  | .rp cs off => .rp cs off
  | .own id off n sz => .own (r id) off n sz
  | .nils => .nils
  | .nilm => .nilm
  | .map id => .map (r id)
  | .fn f a b => .fn f (AV.renL r a) (AV.renL r b)
def AV.renL (r : Nat → Nat) : List AV → List AV
  | [] => []
  | a :: as => AV.ren r a :: AV.renL r as
end
def ABlk.ren (r : Nat → Nat) : ABlk → ABlk
  | .row ty cs => .row ty cs
  | .lit ty cs => .lit ty (AV.renL r cs)
  | .tab ag k m => .tab ag k m
  | .ptab ag m => .ptab ag m
  | .ptx ag m es c b => .ptx ag m es c b
  | .obj o => .obj o
mutual
/-- The row 'id' as pure data. -/
def AV.frz (id : Nat) (row : List PV) : AV → AV
  | .p v => .p v
  | .agg cs => .agg (AV.frzL id row cs)
  | .tup vs => .tup (AV.frzL id row vs)
  | .ptr i off => if Nat.beq i id then .rp row off else .ptr i off
  | .rp cs off => .rp cs off
  | .own i off n sz => if Nat.beq i id then .p (.sl (row.drop off) n) else .own i off n sz
  | .nils => .nils
  | .nilm => .nilm
  | .map i => .map i
  | .fn f a b => .fn f (AV.frzL id row a) (AV.frzL id row b)
def AV.frzL (id : Nat) (row : List PV) : List AV → List AV
  | [] => []
  | a :: as => AV.frz id row a :: AV.frzL id row as
end
def ABlk.frz (id : Nat) (row : List PV) : ABlk → ABlk
  | .row ty cs => .row ty cs
  | .lit ty cs => .lit ty (AV.frzL id row cs)
  | .tab ag k m => .tab ag k m
  | .ptab ag m => .ptab ag m
  | .ptx ag m es c b => .ptx ag m es c b
  | .obj o => .obj o
section
variable {φ φ' : Phi} {F F' : Nat → Prop} {w : World}
mutual
theorem VR.ren {r : Nat → Nat} : ∀ (x : AV), (∀ id ∈ x.ids, ∀ y, φ' (r id) = some y → φ id = some y) → ∀ {v : Value}, VR φ F w x v → VR φ' F w (x.ren r) v
  | .p _, _, _, h => h
  | .agg cs, hφ, _, ⟨us, e, h, ho⟩ => ⟨us, e, VRs.ren cs hφ h, ho⟩
  | .tup cs, hφ, _, ⟨us, e, h⟩ => ⟨us, e, VRs.ren cs hφ h⟩
  | .ptr id off, hφ, _, h => fun x hx => h x (hφ id (by simp [AV.ids]) _ hx)
  | .rp _ _, _, _, h => h
  | .own id _ _ _, hφ, _, h => fun x hx => h x (hφ id (by simp [AV.ids]) _ hx)
  | .nils, _, _, h => h
  | .nilm, _, _, h => h
  | .map id, hφ, _, h => fun x hx => h x (hφ id (by simp [AV.ids]) _ hx)
  | .fn _ first caps, hφ, _, ⟨us, ws, e, h1, h2⟩ =>
    ⟨us, ws, e, VRs.ren first (fun id hi => hφ id (by simp [AV.ids, hi])) h1, VRs.ren caps (fun id hi => hφ id (by simp [AV.ids, hi])) h2⟩
theorem VRs.ren {r : Nat → Nat} : ∀ (l : List AV), (∀ id ∈ AV.ids.idsOf l, ∀ y, φ' (r id) = some y → φ id = some y) → ∀ {us : List Value}, VRs φ F w l us → VRs φ' F w (AV.renL r l) us
  | [], _, _, h => by rw [AV.renL]; exact h
  | a :: as, hφ, _, ⟨u, r', e, h1, h2⟩ => by
    rw [AV.renL]
    exact ⟨u, r', e, VR.ren a (fun id hi => hφ id (by simp [AV.ids.idsOf, hi])) h1, VRs.ren as (fun id hi => hφ id (by simp [AV.ids.idsOf, hi])) h2⟩
end
def FrzOK (φ : Phi) (F F' : Nat → Prop) (w : World) (ty : TypeId) (row : List PV) : Option (Nat × Sz) → Prop
  | none => row = []
  | some (b, N) => BR φ F w b N (.row ty row) ∧ F' b
/-- What is said of a row that goes over into pure data. -/
theorem frz_own {id : Nat} {row : List PV} {ty : TypeId} {x : Option (Nat × Sz)} (hx : φ id = some x) (hF : ∀ b, F b → F' b)
    (hB : FrzOK φ F F' w ty row x) {off n sz : Nat} {v : Value} (h : VR φ F w (.own id off n sz) v) : RV w F' v (.sl (row.drop off) n) := by
  rcases h x hx with ⟨rfl, rfl, rfl, rfl⟩ | ⟨b, N, c, rfl, rfl, h1, h2, h3⟩
  · simp only [FrzOK] at hB; subst hB
    exact RV.sl (fun _ => undef) (Nat.le_refl 0) (by unfold maxLen; omega) (fun _ => rfl) (fun h => absurd rfl h) (fun j p hp => by simp at hp)
  · obtain ⟨⟨cur, e1, ⟨e2, _⟩, e3, e4⟩, hb⟩ := hB
    refine RV.sl (fun j => cur.getD (off + j) undef) h1 h2 (fun e => by cases e) (fun _ => ⟨_, rfl, hb, fun j hj => ?_⟩) fun j p hp => ?_
    · rw [add_lit, cell_blk e1]
      have : off + j < cur.size := by simp at hj; omega
      simp [this]
    · rw [List.getElem?_drop] at hp
      obtain ⟨v, hv, hr⟩ := e4 _ p hp
      have : cur.getD (off + j) undef = v := by simp [Array.getD_eq_getD_getElem?, hv]
      rw [this]
      exact hr.keep hF (KeptF.refl F w)
theorem frz_ptr {id : Nat} {row : List PV} {ty : TypeId} {x : Option (Nat × Sz)} (hx : φ id = some x) (hF : ∀ b, F b → F' b)
    (hB : FrzOK φ F F' w ty row x) {off : Nat} {v : Value} (h : VR φ F w (.ptr id off) v) : VR φ' F' w (.rp row off) v := by
  obtain ⟨b, N, rfl, rfl⟩ := h x hx
  obtain ⟨⟨cur, e1, ⟨e2, _⟩, e3, e4⟩, hb⟩ := hB
  refine ⟨⟨b, 0, none⟩, fun j => cur.getD j undef, by rw [add_lit]; simp, fun _ => hb, fun j p hp => ?_⟩
  obtain ⟨v, hv, hr⟩ := e4 _ p hp
  have : cur.getD j undef = v := by simp [Array.getD_eq_getD_getElem?, hv]
  simp only []
  rw [this, add_lit, cell_blk e1]
  exact ⟨by simpa using hv, hr.keep hF (KeptF.refl F w)⟩
mutual
theorem VR.frz {id : Nat} {row : List PV} {ty : TypeId} {y : Option (Nat × Sz)} (hx : φ id = some y) (hφ : ∀ i y, φ' i = some y → φ i = some y) (hF : ∀ b, F b → F' b)
    (hB : FrzOK φ F F' w ty row y) : ∀ (x : AV) {v : Value}, VR φ F w x v → VR φ' F' w (x.frz id row) v
  | .p _, _, h => RV.keep h hF (KeptF.refl F w)
  | .agg cs, _, ⟨us, e, h, ho⟩ => ⟨us, e, VRs.frz hx hφ hF hB cs h, ho⟩
  | .tup cs, _, ⟨us, e, h⟩ => ⟨us, e, VRs.frz hx hφ hF hB cs h⟩
  | .ptr i off, v, h => by
    rw [AV.frz]
    by_cases hi : i = id
    · subst hi; rw [if_pos (by rw [Nat.beq_eq])]; exact frz_ptr hx hF hB h
    · rw [if_neg (by rw [Nat.beq_eq]; exact hi)]
      exact fun x hx => h x (hφ _ _ hx)
  | .rp cs off, _, h => VR.keep (Phi.Le.refl φ) hF (KeptF.refl F w) (.rp cs off) h
  | .own i off n sz, v, h => by
    rw [AV.frz]
    by_cases hi : i = id
    · subst hi; rw [if_pos (by rw [Nat.beq_eq])]; exact frz_own hx hF hB h
    · rw [if_neg (by rw [Nat.beq_eq]; exact hi)]
      exact fun x hx => h x (hφ _ _ hx)
  | .nils, _, h => h
  | .nilm, _, h => h
  | .map i, _, h => fun x hx => h x (hφ _ _ hx)
  | .fn _ a b, _, ⟨us, ws, e, h1, h2⟩ => ⟨us, ws, e, VRs.frz hx hφ hF hB a h1, VRs.frz hx hφ hF hB b h2⟩
theorem VRs.frz {id : Nat} {row : List PV} {ty : TypeId} {y : Option (Nat × Sz)} (hx : φ id = some y) (hφ : ∀ i y, φ' i = some y → φ i = some y) (hF : ∀ b, F b → F' b)
    (hB : FrzOK φ F F' w ty row y) : ∀ (l : List AV) {us : List Value}, VRs φ F w l us → VRs φ' F' w (AV.frzL id row l) us
  | [], _, h => by rw [AV.frzL]; exact h
  | a :: as, _, ⟨u, r', e, h1, h2⟩ => by
    rw [AV.frzL]
    exact ⟨u, r', e, VR.frz hx hφ hF hB a h1, VRs.frz hx hφ hF hB as h2⟩
end
theorem renL_get {r : Nat → Nat} : ∀ {l : List AV} {j : Nat}, (AV.renL r l)[j]? = (l[j]?).map (AV.ren r)
  | [], j => by simp [AV.renL]
  | a :: as, 0 => by simp [AV.renL]
  | a :: as, j + 1 => by simp [AV.renL, renL_get]
theorem purL_get : ∀ {l : List AV} {j : Nat}, (AV.purL l)[j]? = (l[j]?).map AV.pur
  | [], j => by simp [AV.purL]
  | a :: as, 0 => by simp [AV.purL]
  | a :: as, j + 1 => by simp [AV.purL, purL_get]
theorem frzL_get {id : Nat} {row : List PV} : ∀ {l : List AV} {j : Nat}, (AV.frzL id row l)[j]? = (l[j]?).map (AV.frz id row)
  | [], j => by simp [AV.frzL]
  | a :: as, 0 => by simp [AV.frzL]
  | a :: as, j + 1 => by simp [AV.frzL, frzL_get]
theorem renL_len {r : Nat → Nat} : ∀ {l : List AV}, (AV.renL r l).length = l.length
  | [] => by simp [AV.renL]
  | a :: as => by simp [AV.renL, renL_len]
theorem purL_len : ∀ {l : List AV}, (AV.purL l).length = l.length
  | [] => by simp [AV.purL]
  | a :: as => by simp [AV.purL, purL_len]
theorem frzL_len {id : Nat} {row : List PV} : ∀ {l : List AV}, (AV.frzL id row l).length = l.length
  | [] => by simp [AV.frzL]
  | a :: as => by simp [AV.frzL, frzL_len]
theorem BR.ren {r : Nat → Nat} {b : Nat} {N : Sz} : ∀ {B : ABlk}, (∀ id ∈ B.ids, ∀ y, φ' (r id) = some y → φ id = some y) → BR φ F w b N B → BR φ' F w b N (B.ren r)
  | .row _ _, _, h => h
  | .lit _ _, hφ, ⟨cur, h1, h2, h3, h4⟩ => ⟨cur, h1, h2, by rw [renL_len]; exact h3, fun j p hp => by
      rw [renL_get] at hp
      obtain ⟨q, hq, rfl⟩ := Option.map_eq_some_iff.1 hp
      obtain ⟨v, hv, hr, ho⟩ := h4 j q hq
      exact ⟨v, hv, VR.ren _ (fun id hi => hφ id (mem_idsOf (List.mem_of_getElem? hq) hi)) hr, ho⟩⟩
  | .tab _ _ _, _, h => h
  | .ptab _ _, _, h => h
  | .ptx _ _ _ _ _, _, h => h
  | .obj _, _, h => h
theorem BR.frz {id : Nat} {row : List PV} {ty : TypeId} {y : Option (Nat × Sz)} (hx : φ id = some y) (hφ : ∀ i y, φ' i = some y → φ i = some y) (hF : ∀ b, F b → F' b)
    (hB : FrzOK φ F F' w ty row y) {b : Nat} {N : Sz} : ∀ {B : ABlk}, BR φ F w b N B → BR φ' F' w b N (B.frz id row)
  | .row _ _, ⟨cur, h1, h2, h3, h4⟩ => ⟨cur, h1, h2, h3, fun j p hp => by
      obtain ⟨v, hv, hr⟩ := h4 j p hp
      exact ⟨v, hv, hr.keep hF (KeptF.refl F w)⟩⟩
  | .lit _ _, ⟨cur, h1, h2, h3, h4⟩ => ⟨cur, h1, h2, by rw [frzL_len]; exact h3, fun j p hp => by
      rw [frzL_get] at hp
      obtain ⟨q, hq, rfl⟩ := Option.map_eq_some_iff.1 hp
      obtain ⟨v, hv, hr, ho⟩ := h4 j q hq
      exact ⟨v, hv, VR.frz hx hφ hF hB _ hr, ho⟩⟩
  | .tab _ _ _, ⟨es, clock, h1, h2, h3, h4⟩ => ⟨es, clock, h1, h2, h3, h4.keep hF (KeptF.refl F w) (fun _ _ => rfl)⟩
  | .ptab _ _, ⟨es, clock, h1, h2, h3, h4⟩ => ⟨es, clock, h1, h2, h3, h4.keep hF (KeptF.refl F w)⟩
  | .ptx _ _ _ _ _, ⟨h0, h1, h2, h3, h4⟩ => ⟨h0, h1, h2, h3, h4.keep hF (KeptF.refl F w)⟩
  | .obj _, h => h
theorem BR.pur {b : Nat} {N : Sz} {ty : TypeId} {cs : List AV} : BR φ F w b N (.lit ty cs) → BR φ F w b N (.lit ty (AV.purL cs))
  | ⟨cur, h1, h2, h3, h4⟩ => ⟨cur, h1, h2, by rw [purL_len]; exact h3, fun j p hp => by
      rw [purL_get] at hp
      obtain ⟨q, hq, rfl⟩ := Option.map_eq_some_iff.1 hp
      obtain ⟨v, hv, hr, ho⟩ := h4 j q hq
      exact ⟨v, hv, VR.pur _ hr, ho⟩⟩
end
section
variable {φ : Phi} {F : Nat → Prop} {w : World}
theorem pures_get : ∀ {cs : List AV} {ps : List PV}, pures cs = some ps → ps.length = cs.length ∧ ∀ (j : Nat) (p : PV), ps[j]? = some p → ∃ q, cs[j]? = some q ∧ q.pure? = some p
  | [], ps, h => by simp only [pures, Option.some.injEq] at h; subst h; exact ⟨rfl, fun j p hp => by simp at hp⟩
  | a :: as, ps, h => by
    simp only [pures] at h
    split at h
    case h_2 => cases h
    rename_i p ps' hp hps
    injection h with h; subst h
    obtain ⟨h1, h2⟩ := pures_get hps
    refine ⟨by simp [h1], fun j q hq => ?_⟩
    match j with
    | 0 => simp at hq; subst hq; exact ⟨a, rfl, hp⟩
    | j + 1 => exact h2 j q (by simpa using hq)
theorem VR.pure_of {x : AV} {p : PV} {v : Value} (hp : x.pure? = some p) (h : VR φ F w x v) : RV w F v p := by
  cases x <;> simp only [AV.pure?] at hp <;> try (cases hp; done)
  · injection hp with hp; subst hp; exact h
  · injection hp with hp; subst hp
    have := VR.pur .nils h
    simpa [AV.pur, VR] using this
theorem BR.toRow {b : Nat} {N : Sz} {ty : TypeId} {cs : List AV} {ps : List PV} (hp : pures cs = some ps) : BR φ F w b N (.lit ty cs) → BR φ F w b N (.row ty ps)
  | ⟨cur, h1, h2, h3, h4⟩ => by
    obtain ⟨hl, hg⟩ := pures_get hp
    refine ⟨cur, h1, h2, by omega, fun j p hpj => ?_⟩
    obtain ⟨q, hq, hqp⟩ := hg j p hpj
    obtain ⟨v, hv, hr, _⟩ := h4 j q hq
    exact ⟨v, hv, VR.pure_of hqp hr⟩
end
/-- A map of rows as a map of pure slices. -/
def pureTab (m : List (List Int × List PV × Nat)) : List (List Int × PV) := m.map fun e => (e.1, .sl e.2.1 e.2.2)
theorem TRs.pure {w : World} {F : Nat → Prop} {ag kind : Nat} {F' : Nat → Prop} (hF : ∀ b, F b → F' b) : ∀ {m : List (List Int × List PV × Nat)} {es : List MapEntry} {D : List Nat}, TRs ag w F kind m es D → (∀ c ∈ D, F' c) → PRs ag w F' (pureTab m) es
  | [], [], _, _, _ => trivial
  | (k, cs, n) :: m, e :: es, D, ⟨D1, D2, eD, h1, h2, h3⟩, hD => by
    refine ⟨h1, ?_, TRs.pure hF h3 fun c hc => hD c (by rw [eD]; simp [hc])⟩
    rcases h2 with ⟨e1, rfl, rfl, _⟩ | ⟨d, c, cur, e1, e2, q1, q2, q3, q4, q5, q6⟩
    · rw [e1]
      exact RV.sl (fun _ => undef) (Nat.le_refl 0) (by unfold maxLen; omega) (fun _ => rfl) (fun h => absurd rfl h) (fun j p hp => by simp at hp)
    · rw [e1]
      refine RV.sl (fun j => cur.getD j undef) q1 q2 (fun e => by cases e) (fun _ => ⟨_, rfl, hD d (by rw [eD, e2]; simp), fun j hj => ?_⟩) fun j p hp => ?_
      · rw [add_lit, cell_blk q3]
        have hj' : j < cs.length := hj
        have : j < cur.size := by omega
        simp [this]
      · obtain ⟨u, hu, hr⟩ := q6 j p hp
        have : cur.getD j undef = u := by simp [Array.getD_eq_getD_getElem?, hu]
        rw [this]
        exact hr.keep hF (KeptF.refl F w)
  | [], _ :: _, _, h, _ => h.elim
  | _ :: _, [], _, h, _ => h.elim
inductive Gh where
  | keep (ts ids : List Nat)
  | ren (i j : Nat)
  | opn (t id ty sz : Nat)
  | opnB (b k id ty sz : Nat)
  | frz (id : Nat)
  | row (id : Nat)
  | pureT (t : Nat)
  | pureB (id : Nat)
  | castT (t : Nat) (x : AV)
  | castB (id : Nat) (B : ABlk)
  | cut (id m : Nat)
  | frzTab (id : Nat)
def pickE : Env → List Nat → Env
  | _, [] => []
  | σ, t :: ts => match σ.get t with
    | some x => (t, x) :: pickE σ ts
    | none => pickE σ ts
def pickH : AHeap → List Nat → AHeap
  | _, [] => []
  | H, t :: ts => match H.get t with
    | some x => (t, x) :: pickH H ts
    | none => pickH H ts
def mapE (f : AV → AV) : Env → Env
  | [] => []
  | (t, x) :: r => (t, f x) :: mapE f r
def mapH (k : Nat → Nat) (f : ABlk → ABlk) : AHeap → AHeap
  | [] => []
  | (t, x) :: r => (k t, f x) :: mapH k f r
def sub1 (i j : Nat) (k : Nat) : Nat := if Nat.beq k i then j else k
def Gh.run (pins : List Nat) (s : LS) : Gh → Option LS
  | .keep ts ids => some ⟨pickE s.σ ts, pickH s.H ids⟩
  | .ren i j => match s.H.get i with
    | some _ => if memB j s.ids || memB j pins then none else some ⟨mapE (AV.ren (sub1 i j)) s.σ, mapH (sub1 i j) (ABlk.ren (sub1 i j)) s.H⟩
    | none => none
  | .opn t id ty sz => match s.σ.get t with
    | some .nils => if memB id s.ids || memB id pins then none else some ⟨s.σ.put t (some (.own id 0 0 sz)), s.H.put id (some (.row ty []))⟩
    | _ => none
  | .opnB b k id ty sz => match s.H.get b with
    | some (.lit ty' cs) => match cs[k]? with
      | some .nils => if memB id s.ids || memB id pins then none else some ⟨s.σ, (s.H.put id (some (.row ty []))).put b (some (.lit ty' (cs.set k (.own id 0 0 sz))))⟩
      | _ => none
    | _ => none
  | .frz id => match s.H.get id with
    | some (.row _ cs) => some ⟨mapE (AV.frz id cs) s.σ, mapH (fun k => k) (ABlk.frz id cs) (s.H.del id)⟩
    | _ => none
  | .row id => match s.H.get id with
    | some (.lit ty cs) => match pures cs with
      | some ps => some ⟨s.σ, s.H.put id (some (.row ty ps))⟩
      | none => none
    | _ => none
  | .pureT t => match s.σ.get t with
    | some x => some ⟨s.σ.put t (some x.pur), s.H⟩
    | none => none
  | .pureB id => match s.H.get id with
    | some (.lit ty cs) => some ⟨s.σ, s.H.put id (some (.lit ty (AV.purL cs)))⟩
    | _ => none
  | .castT t x => some ⟨s.σ.put t (some x), s.H⟩
  | .castB id B => some ⟨s.σ, s.H.put id (some B)⟩
  | .cut id m => match s.H.get id with
    | some (.row ty cs) => some ⟨s.σ, s.H.put id (some (.row ty (cs.take m)))⟩
    | _ => none
  | .frzTab id => match s.H.get id with
    | some (.tab ag _ m) => some ⟨s.σ, s.H.put id (some (.ptab ag (pureTab m)))⟩
    | _ => none
def Gh.cond (s : LS) : Gh → Prop
  | .castT t x => s.σ.get t = some x
  | .castB id B => s.H.get id = some B
  | _ => True
def runGh (pins : List Nat) : List Gh → LS → Option LS
  | [], s => some s
  | g :: gs, s => match g.run pins s with
    | some s' => runGh pins gs s'
    | none => none
def condGh (pins : List Nat) : List Gh → LS → Prop
  | [], _ => True
  | g :: gs, s => g.cond s ∧ match g.run pins s with
    | some s' => condGh pins gs s'
    | none => False
theorem pickE_get : ∀ {ts : List Nat} {σ : Env} {t : Nat} {x : AV}, (pickE σ ts).get t = some x → σ.get t = some x
  | [], _, _, _, h => by simp [pickE, Env.get] at h
  | i :: ts, σ, t, x, h => by
    simp only [pickE] at h
    split at h
    · rename_i y hy
      simp only [Env.get] at h
      split at h
      · rename_i hi
        rw [Nat.beq_eq] at hi; subst hi
        rw [hy]; exact h
      · exact pickE_get h
    · exact pickE_get h
theorem pickH_get : ∀ {ts : List Nat} {σ : AHeap} {t : Nat} {x : ABlk}, (pickH σ ts).get t = some x → σ.get t = some x
  | [], _, _, _, h => by simp [pickH, AHeap.get] at h
  | i :: ts, σ, t, x, h => by
    simp only [pickH] at h
    split at h
    · rename_i y hy
      simp only [AHeap.get] at h
      split at h
      · rename_i hi
        rw [Nat.beq_eq] at hi; subst hi
        rw [hy]; exact h
      · exact pickH_get h
    · exact pickH_get h
theorem mapE_get {f : AV → AV} : ∀ {σ : Env} {t : Nat}, (mapE f σ).get t = (σ.get t).map f
  | [], _ => rfl
  | (i, x) :: r, t => by
    simp only [mapE, Env.get]
    split
    · rfl
    · exact mapE_get
theorem mapH_get {f : ABlk → ABlk} : ∀ {σ : AHeap} {t : Nat}, (mapH (fun k => k) f σ).get t = (σ.get t).map f
  | [], _ => rfl
  | (i, x) :: r, t => by
    simp only [mapH, AHeap.get]
    split
    · rfl
    · exact mapH_get
theorem mapH_sub {f : ABlk → ABlk} {i j : Nat} (hij : i ≠ j) : ∀ {σ : AHeap}, j ∉ σ.map (·.1) → ∀ {t : Nat}, (mapH (sub1 i j) f σ).get t = if t = j then (σ.get i).map f else if t = i then none else (σ.get t).map f
  | [], _, t => by simp [mapH, AHeap.get]
  | (k, x) :: r, hj, t => by
    simp only [List.map_cons, List.mem_cons, not_or] at hj
    have ih := mapH_sub (f := f) hij hj.2 (t := t)
    simp only [mapH, AHeap.get, sub1]
    by_cases hk : k = i
    · subst hk
      have e : Nat.beq k k = true := by rw [Nat.beq_eq]
      rw [if_pos e]
      by_cases ht : t = j
      · subst ht
        rw [if_pos (by rw [Nat.beq_eq]), if_pos rfl, if_pos e]; rfl
      · rw [if_neg (by rw [Nat.beq_eq]; exact fun h => ht h.symm), ih, if_neg ht, if_neg ht]
        by_cases ht2 : t = k
        · rw [if_pos ht2, if_pos ht2]
        · rw [if_neg ht2, if_neg ht2, if_neg (by rw [Nat.beq_eq]; exact fun h => ht2 h.symm)]
    · have e : ¬ Nat.beq k i = true := by rw [Nat.beq_eq]; exact hk
      rw [if_neg e, if_neg e]
      by_cases ht : k = t
      · subst ht
        rw [if_pos (by rw [Nat.beq_eq]), if_neg (fun h => hj.1 h.symm), if_neg hk, if_pos (by rw [Nat.beq_eq])]; rfl
      · have ht' : ¬ Nat.beq k t = true := by rw [Nat.beq_eq]; exact ht
        simp only [if_neg ht', ih]
theorem LS.key_ids {s : LS} {id : Nat} (h : id ∈ s.H.map (·.1)) : id ∈ s.ids := by
  obtain ⟨x, hx, rfl⟩ := List.mem_map.1 h
  exact List.mem_append_right _ (List.mem_flatMap.2 ⟨x, hx, List.mem_cons_self⟩)
theorem memB_false {id : Nat} {l : List Nat} (h : memB id l = false) : id ∉ l := fun hm => by
  have := memB_iff.2 hm
  rw [h] at this; cases this
section
variable {C : Ctx} {a : Act} {w : World} {φ : Phi} {F : Nat → Prop}
theorem Sim.reenv {st st' : St} (h : Sim C st a w φ F) (hH : st'.H = st.H) (he : ∀ t x, st'.σ t = some x → VR φ F w x (a.tmps.getD t undef)) : Sim C st' a w φ F where
  nt := h.nt
  df := h.df
  os := h.os
  tape := h.tape
  output := h.output
  size := h.size
  old := h.old
  Fd := h.Fd
  Fo := h.Fo
  Fi := h.Fi
  env := he
  own := fun id B hB => h.own id B (by rw [← hH]; exact hB)
  dom := fun id x hx => by rw [hH]; exact h.dom id x hx
  inj := h.inj
  sep := h.sep
  Dok := h.Dok
  pin := fun id x hx hne => h.pin id x hx (by rw [← hH]; exact hne)
theorem Sim.reblk {st : St} (h : Sim C st a w φ F) {id : Nat} {B' : ABlk} (hne : st.H id ≠ none) (hB : ∀ x, φ id = some x → Spot C φ F w B' x) : Sim C (st.blk id (some B')) a w φ F where
  nt := h.nt
  df := h.df
  os := h.os
  tape := h.tape
  output := h.output
  size := h.size
  old := h.old
  Fd := h.Fd
  Fo := h.Fo
  Fi := h.Fi
  env := h.env
  own := fun i B hi => by
    by_cases e : i = id
    · subst e
      simp [St.blk] at hi; subst hi
      cases hs : st.H i with
      | none => exact absurd hs hne
      | some B0 =>
        obtain ⟨x, hx⟩ := h.live hs
        exact ⟨x, hx, hB x hx⟩
    · simp only [St.blk, if_neg e] at hi
      exact h.own i B hi
  dom := fun i x hx => by
    by_cases e : i = id
    · subst e; simp [St.blk]
    · simp only [St.blk, if_neg e]; exact h.dom i x hx
  inj := h.inj
  sep := h.sep
  Dok := h.Dok
  pin := fun i x hx hi => h.pin i x hx (by
    by_cases e : i = id
    · subst e; exact hne
    · simpa [St.blk, e] using hi)
theorem put_st_H (s : LS) (id : Nat) (B : Option ABlk) : (LS.mk s.σ (s.H.put id B)).st = s.st.blk id B := by
  unfold LS.st St.blk
  simp only [St.mk.injEq, true_and]
  funext i
  exact heap_get_put s.H id i B
theorem put_st_σ (s : LS) (t : Nat) (x : Option AV) : (LS.mk (s.σ.put t x) s.H).st = s.st.set t x := by
  unfold LS.st St.set
  simp only [St.mk.injEq, and_true]
  funext i
  exact env_get_put s.σ t i x
theorem gh_keep {s : LS} (h : Sim C s.st a w φ F) (ts ids : List Nat) : ∃ φ', Sim C (LS.mk (pickE s.σ ts) (pickH s.H ids)).st a w φ' F := by
  refine ⟨fun id => if ((pickH s.H ids).get id).isSome then φ id else none, h.less (fun id x hx => ?_) (fun t x hx => pickE_get hx) (fun id B hB => ⟨pickH_get hB, ?_⟩) (fun id x hx => ?_)⟩
  · split at hx
    · exact hx
    · cases hx
  · have : (pickH s.H ids).get id = some B := hB
    simp [this]
  · split at hx
    · rename_i hs
      intro e
      have : (pickH s.H ids).get id = none := e
      rw [this] at hs; cases hs
    · cases hx
theorem gh_ren {s : LS} {pins : List Nat} (hp : ∀ id, C.pin id ≠ none → id ∈ pins) (h : Sim C s.st a w φ F) {i j : Nat} {B : ABlk} (hB : s.H.get i = some B) (hj : j ∉ s.ids) (hjp : j ∉ pins) :
    ∃ φ', Sim C (LS.mk (mapE (AV.ren (sub1 i j)) s.σ) (mapH (sub1 i j) (ABlk.ren (sub1 i j)) s.H)).st a w φ' F := by
  have hij : i ≠ j := fun e => hj (LS.key_ids (by rw [← e]; exact get_keys hB))
  have hjk : j ∉ s.H.map (·.1) := fun hm => hj (LS.key_ids hm)
  let φ' : Phi := fun k => if k = j then φ i else if k = i then none else φ k
  have hs : ∀ k, sub1 i j k = if k = i then j else k := fun k => by
    unfold sub1
    by_cases e : k = i
    · rw [if_pos (by rw [Nat.beq_eq]; exact e), if_pos e]
    · rw [if_neg (by rw [Nat.beq_eq]; exact e), if_neg e]
  have hφ : ∀ k, k ≠ j → ∀ y, φ' (sub1 i j k) = some y → φ k = some y := fun k hk y hy => by
    rw [hs] at hy
    by_cases e : k = i
    · subst e; rw [if_pos rfl] at hy; simpa [φ'] using hy
    · rw [if_neg e] at hy; simpa [φ', hk, e] using hy
  have hfr := LS.fresh hj
  have hH : ∀ k, (LS.mk (mapE (AV.ren (sub1 i j)) s.σ) (mapH (sub1 i j) (ABlk.ren (sub1 i j)) s.H)).st.H k = if k = j then (s.H.get i).map (ABlk.ren (sub1 i j)) else if k = i then none else (s.H.get k).map (ABlk.ren (sub1 i j)) := fun k => mapH_sub hij hjk
  have hspot : ∀ k B0 x, s.H.get k = some B0 → Spot C φ F w B0 x → Spot C φ' F w (B0.ren (sub1 i j)) x := fun k B0 x hk hx => by
    cases x with
    | none => obtain ⟨ty, rfl⟩ := hx; exact ⟨ty, rfl⟩
    | some x =>
      obtain ⟨b, N⟩ := x
      exact ⟨BR.ren (fun id hi => hφ id fun e => hfr.own k B0 hk (by rw [← e]; exact hi)) hx.1, hx.2⟩
  have horig : ∀ k x, φ' k = some x → φ (if k = j then i else k) = some x ∧ (k = j ∨ k ≠ i) := fun k x hk => by
    simp only [φ'] at hk
    by_cases e : k = j
    · rw [if_pos e] at hk ⊢; exact ⟨hk, .inl e⟩
    · rw [if_neg e] at hk ⊢
      by_cases e2 : k = i
      · rw [if_pos e2] at hk; cases hk
      · rw [if_neg e2] at hk; exact ⟨hk, .inr e2⟩
  have hne' : ∀ k x, C.pin k = some x → (LS.mk (mapE (AV.ren (sub1 i j)) s.σ) (mapH (sub1 i j) (ABlk.ren (sub1 i j)) s.H)).st.H k ≠ none → s.st.H k ≠ none ∧ k ≠ j ∧ k ≠ i := fun k x hk hne => by
    rw [hH] at hne
    by_cases e : k = j
    · subst e
      exact absurd (hp k (by rw [hk]; simp)) hjp
    · rw [if_neg e] at hne
      by_cases e2 : k = i
      · rw [if_pos e2] at hne; exact absurd rfl hne
      · rw [if_neg e2] at hne
        exact ⟨fun hn => hne (by have hn' : s.H.get k = none := hn; rw [hn']; rfl), e, e2⟩
  refine ⟨φ', { h with
    env := fun t x hx => ?_
    own := fun k B' hk => ?_
    dom := fun k x hk => ?_
    inj := fun k k' b N N' h1 h2 => ?_
    sep := fun k k' b b' N N' c h1 h2 hc hc' => by
      obtain ⟨q1, r1⟩ := horig k _ h1
      obtain ⟨q2, r2⟩ := horig k' _ h2
      obtain ⟨e1, e2⟩ := h.sep _ _ b b' N N' c q1 q2 hc hc'
      refine ⟨?_, e2⟩
      by_cases e : k = j <;> by_cases e' : k' = j
      · rw [e, e']
      · rw [if_pos e, if_neg e'] at e1
        rcases r2 with r2 | r2
        · exact absurd r2 e'
        · exact absurd e1.symm r2
      · rw [if_neg e, if_pos e'] at e1
        rcases r1 with r1 | r1
        · exact absurd r1 e
        · exact absurd e1 r1
      · rw [if_neg e, if_neg e'] at e1; exact e1
    Dok := fun k b N h1 => h.Dok _ b N (horig k _ h1).1
    pin := fun k x hk hne => ?_ }⟩
  · have : (mapE (AV.ren (sub1 i j)) s.σ).get t = some x := hx
    rw [mapE_get] at this
    obtain ⟨y, hy, rfl⟩ := Option.map_eq_some_iff.1 this
    exact VR.ren y (fun id hi => hφ id fun e => hfr.env t y hy (by rw [← e]; exact hi)) (h.env t y hy)
  · rw [hH] at hk
    by_cases e : k = j
    · subst e
      rw [if_pos rfl, hB] at hk
      simp only [Option.map_some, Option.some.injEq] at hk
      subst hk
      obtain ⟨x, hx, hxs⟩ := h.own i B hB
      exact ⟨x, by simpa [φ'] using hx, hspot i B x hB hxs⟩
    · rw [if_neg e] at hk
      by_cases e2 : k = i
      · rw [if_pos e2] at hk; cases hk
      · rw [if_neg e2] at hk
        obtain ⟨B0, hB0, rfl⟩ := Option.map_eq_some_iff.1 hk
        obtain ⟨x, hx, hxs⟩ := h.own k B0 hB0
        exact ⟨x, by simpa [φ', e, e2] using hx, hspot k B0 x hB0 hxs⟩
  · rw [hH]
    by_cases e : k = j
    · rw [if_pos e, hB]; simp
    · rw [if_neg e]
      by_cases e2 : k = i
      · simp [φ', e2, hij] at hk
      · rw [if_neg e2]
        have hk' : φ k = some x := by simpa [φ', e, e2] using hk
        have := h.dom k x hk'
        intro hn
        exact this (by have hn' : (s.H.get k).map (ABlk.ren (sub1 i j)) = none := hn; show s.H.get k = none; simpa using hn')
  · simp only [φ'] at h1 h2
    by_cases e : k = j <;> by_cases e' : k' = j <;> simp only [e, e', if_true, if_false] at h1 h2 ⊢
    · by_cases e2 : k' = i
      · rw [if_pos e2] at h2; cases h2
      · rw [if_neg e2] at h2
        exact absurd (h.inj i k' b N N' h1 h2).symm e2
    · by_cases e2 : k = i
      · rw [if_pos e2] at h1; cases h1
      · rw [if_neg e2] at h1
        exact absurd (h.inj k i b N N' h1 h2) e2
    · by_cases e2 : k = i
      · rw [if_pos e2] at h1; cases h1
      · by_cases e3 : k' = i
        · rw [if_pos e3] at h2; cases h2
        · rw [if_neg e2] at h1; rw [if_neg e3] at h2
          exact h.inj k k' b N N' h1 h2
  · obtain ⟨q1, q2, q3⟩ := hne' k x hk hne
    obtain ⟨y, hy, hl⟩ := h.pin k x hk q1
    exact ⟨y, by simpa [φ', q2, q3] using hy, hl⟩
theorem gh_frz {s : LS} (h : Sim C s.st a w φ F) {id ty : Nat} {cs : List PV} (hB : s.H.get id = some (.row ty cs)) :
    ∃ φ' F', Sim C (LS.mk (mapE (AV.frz id cs) s.σ) (mapH (fun k => k) (ABlk.frz id cs) (s.H.del id))).st a w φ' F' := by
  obtain ⟨y, hy, hys⟩ := h.own id _ hB
  let φ' : Phi := φ.set id none
  let F' : Nat → Prop := fun b => F b ∨ ∃ N, y = some (b, N)
  have hφ : ∀ i z, φ' i = some z → φ i = some z := fun i z hz => by
    by_cases e : i = id
    · subst e; simp [φ', Phi.set] at hz
    · simpa [φ', Phi.set, e] using hz
  have hF : ∀ b, F b → F' b := fun b hb => .inl hb
  have hBB : FrzOK φ F F' w ty cs y := by
    cases y with
    | none => obtain ⟨ty', e⟩ := hys; injection e
    | some y => obtain ⟨b, N⟩ := y; exact ⟨hys.1, .inr ⟨N, rfl⟩⟩
  have hH : ∀ k, (LS.mk (mapE (AV.frz id cs) s.σ) (mapH (fun k => k) (ABlk.frz id cs) (s.H.del id))).st.H k = if k = id then none else (s.H.get k).map (ABlk.frz id cs) := fun k => by
    show (mapH (fun k => k) (ABlk.frz id cs) (s.H.del id)).get k = _
    rw [mapH_get, heap_get_del]
    by_cases e : k = id <;> simp [e]
  refine ⟨φ', F', { h with
    Fd := fun b hb => ?_
    Fo := fun b hb => ?_
    Fi := fun b hb => .inl (h.Fi b hb)
    env := fun t x hx => ?_
    own := fun k B' hk => ?_
    dom := fun k x hk => ?_
    inj := fun k k' b N N' h1 h2 => h.inj k k' b N N' (hφ _ _ h1) (hφ _ _ h2)
    sep := fun k k' b b' N N' c h1 h2 => h.sep k k' b b' N N' c (hφ _ _ h1) (hφ _ _ h2)
    Dok := fun k b N h1 c hc => by
      have q := h.Dok k b N (hφ _ _ h1) c hc
      refine ⟨q.1, ?_, q.2.2⟩
      rintro (hb | ⟨N', rfl⟩)
      · exact q.2.1 hb
      · exact (h.sep k id b c N N' c (hφ _ _ h1) hy hc (.inl rfl)).2 rfl
    pin := fun k x hk hne => ?_ }⟩
  · rcases hb with hb | ⟨N, rfl⟩
    · exact h.Fd b hb
    · exact hys.1.lt
  · rcases hb with hb | ⟨N, rfl⟩
    · exact h.Fo b hb
    · exact .inr hys.2.2
  · have : (mapE (AV.frz id cs) s.σ).get t = some x := hx
    rw [mapE_get] at this
    obtain ⟨z, hz, rfl⟩ := Option.map_eq_some_iff.1 this
    exact VR.frz hy hφ hF hBB z (h.env t z hz)
  · rw [hH] at hk
    by_cases e : k = id
    · rw [if_pos e] at hk; cases hk
    · rw [if_neg e] at hk
      obtain ⟨B0, hB0, rfl⟩ := Option.map_eq_some_iff.1 hk
      obtain ⟨x, hx, hxs⟩ := h.own k B0 hB0
      refine ⟨x, by simpa [φ', Phi.set, e] using hx, ?_⟩
      cases x with
      | none => obtain ⟨ty', rfl⟩ := hxs; exact ⟨ty', rfl⟩
      | some x =>
        obtain ⟨b, N⟩ := x
        refine ⟨BR.frz hy hφ hF hBB hxs.1, ?_, hxs.2.2⟩
        rintro (hb | ⟨N', rfl⟩)
        · exact hxs.2.1 hb
        · exact e (h.inj k id b N N' hx hy)
  · rw [hH]
    by_cases e : k = id
    · simp [φ', Phi.set, e] at hk
    · rw [if_neg e]
      intro hn
      exact h.dom k x (hφ _ _ hk) (by have hn' : (s.H.get k).map (ABlk.frz id cs) = none := hn; show s.H.get k = none; simpa using hn')
  · rw [hH] at hne
    by_cases e : k = id
    · rw [if_pos e] at hne; exact absurd rfl hne
    · rw [if_neg e] at hne
      obtain ⟨y, hy, hl⟩ := h.pin k x hk (fun hn => hne (by have hn' : s.H.get k = none := hn; rw [hn']; rfl))
      exact ⟨y, by simpa [φ', Phi.set, e] using hy, hl⟩
theorem gh_frzTab {s : LS} (h : Sim C s.st a w φ F) {id ag kind : Nat} {m : List (List Int × List PV × Nat)} (hB : s.H.get id = some (.tab ag kind m)) :
    ∃ φ' F', Sim C (LS.mk s.σ (s.H.put id (some (.ptab ag (pureTab m))))).st a w φ' F' := by
  rw [put_st_H]
  obtain ⟨y, hy, hys⟩ := h.own id _ hB
  cases y with
  | none => obtain ⟨ty, e⟩ := hys; cases e
  | some y =>
    obtain ⟨b, N⟩ := y
    obtain ⟨⟨es, clock, e1, e2, e3, e4⟩, hnF, hGb⟩ := hys
    let N' : Sz := ⟨N.n, []⟩
    let φ' : Phi := φ.set id (some (some (b, N')))
    let F' : Nat → Prop := fun c => F c ∨ c ∈ N.D
    have hF : ∀ c, F c → F' c := fun c hc => .inl hc
    have hcong : ∀ l, Cong φ φ' l := fun l i _ y hy' => by
      by_cases hi : i = id
      · subst hi
        simp only [φ', Phi.set_eq, Option.some.injEq] at hy'; subst hy'
        exact ⟨_, hy, rfl, rfl⟩
      · simp only [φ', Phi.set_ne hi] at hy'
        exact ⟨y, hy', Like.refl y⟩
    have hφ' : ∀ i c M, φ' i = some (some (c, M)) → (i = id ∧ c = b ∧ M = N') ∨ (i ≠ id ∧ φ i = some (some (c, M))) := fun i c M hi => by
      by_cases e : i = id
      · subst e
        simp only [φ', Phi.set_eq, Option.some.injEq, Prod.mk.injEq] at hi
        exact .inl ⟨rfl, hi.1.symm, hi.2.symm⟩
      · simp only [φ', Phi.set_ne e] at hi
        exact .inr ⟨e, hi⟩
    have hnd := e2
    rw [List.nodup_cons] at hnd
    refine ⟨φ', F', { h with
      Fd := fun c hc => ?_
      Fo := fun c hc => ?_
      Fi := fun c hc => .inl (h.Fi c hc)
      env := fun t x hx => VR.cong x (hcong _) (VR.keep (Phi.Le.refl φ) hF (KeptF.refl F w) x (h.env t x hx))
      own := fun i B hi0 => ?_
      dom := fun i x hx => ?_
      inj := fun i i' c M M' h1 h2 => ?_
      sep := fun i i' c c' M M' q h1 h2 hq hq' => ?_
      Dok := fun i c M h1 q hq => ?_
      pin := fun i x hp hne => ?_ }⟩
    · rcases hc with hc | hc
      · exact h.Fd c hc
      · exact (h.Dok id b N hy c hc).1
    · rcases hc with hc | hc
      · exact h.Fo c hc
      · exact .inr (h.Dok id b N hy c hc).2.2
    · by_cases hi : i = id
      · subst hi
        simp [St.blk] at hi0; subst hi0
        refine ⟨_, Phi.set_eq, ⟨es, clock, e1, rfl, e3, e4.pure hF fun c hc => .inr hc⟩, ?_, hGb⟩
        rintro (hb | hb)
        · exact hnF hb
        · exact hnd.1 hb
      · simp only [St.blk, if_neg hi] at hi0
        obtain ⟨x, hx, hs⟩ := h.own i B hi0
        refine ⟨x, by simp only [φ', Phi.set_ne hi]; exact hx, ?_⟩
        cases x with
        | none => exact hs
        | some x =>
          obtain ⟨b2, N2⟩ := x
          refine ⟨BR.cong (hcong _) (hs.1.keep (Phi.Le.refl φ) hF (KeptF.refl F w) rfl), ?_, hs.2.2⟩
          rintro (hb | hb)
          · exact hs.2.1 hb
          · exact hi (h.sep id i b b2 N N2 b2 hy hx hb (.inl rfl)).1.symm
    · by_cases hi : i = id
      · subst hi; simp [St.blk]
      · simp only [St.blk, if_neg hi]
        simp only [φ', Phi.set_ne hi] at hx
        exact h.dom i x hx
    · rcases hφ' i c M h1 with ⟨rfl, rfl, rfl⟩ | ⟨n1, g1⟩ <;> rcases hφ' i' c M' h2 with ⟨r1, r2, r3⟩ | ⟨n2, g2⟩
      · exact r1.symm
      · exact h.inj i i' c _ _ hy g2
      · subst r1; subst r2; exact h.inj i i' c _ _ g1 hy
      · exact h.inj i i' c _ _ g1 g2
    · rcases hφ' i c M h1 with ⟨rfl, rfl, rfl⟩ | ⟨n1, g1⟩
      · cases hq
      · rcases hφ' i' c' M' h2 with ⟨r1, r2, r3⟩ | ⟨n2, g2⟩
        · subst r1; subst r2; subst r3
          rcases hq' with hq' | hq'
          · exact h.sep i i' c c' M N q g1 hy hq (.inl hq')
          · cases hq'
        · exact h.sep i i' c c' M M' q g1 g2 hq hq'
    · rcases hφ' i c M h1 with ⟨rfl, rfl, rfl⟩ | ⟨n1, g1⟩
      · cases hq
      · have q1 := h.Dok i c M g1 q hq
        refine ⟨q1.1, ?_, q1.2.2⟩
        rintro (hb | hb)
        · exact q1.2.1 hb
        · exact n1 (h.sep i id c b M N q g1 hy hq (.inr hb)).1
    · by_cases hi : i = id
      · subst hi
        obtain ⟨y, hy', hl⟩ := h.pin i x hp (by rw [show s.st.H i = some (.tab ag kind m) from hB]; simp)
        rw [hy] at hy'; injection hy' with hy'; subst hy'
        exact ⟨_, Phi.set_eq, hl.trans ⟨rfl, rfl⟩⟩
      · obtain ⟨y, hy', hl⟩ := h.pin i x hp (by simpa [St.blk, hi] using hne)
        exact ⟨y, by simp only [φ', Phi.set_ne hi]; exact hy', hl⟩
theorem gh_sound {pins : List Nat} (hp : ∀ id, C.pin id ≠ none → id ∈ pins) (_hG : pins = [] → ∀ b, ¬ C.G b) {g : Gh} {s s' : LS} (hr : g.run pins s = some s') (hc : g.cond s) (h : Sim C s.st a w φ F) :
    ∃ φ' F', Sim C s'.st a w φ' F' := by
  have hpn : ∀ id, id ∉ pins → C.pin id = none := fun id hi => Classical.byContradiction fun hn => hi (hp id hn)
  cases g with
  | keep ts ids =>
    injection hr with hr; subst hr
    obtain ⟨φ', h'⟩ := gh_keep h ts ids
    exact ⟨φ', F, h'⟩
  | ren i j =>
    simp only [Gh.run] at hr
    split at hr
    case h_2 => cases hr
    rename_i B hB
    split at hr
    · cases hr
    rename_i hm
    injection hr with hr; subst hr
    simp only [Bool.or_eq_true, not_or, Bool.not_eq_true] at hm
    obtain ⟨φ', h'⟩ := gh_ren hp h hB (memB_false hm.1) (memB_false hm.2)
    exact ⟨φ', F, h'⟩
  | opn t id ty sz =>
    simp only [Gh.run] at hr
    split at hr
    case h_2 => cases hr
    rename_i hσ
    split at hr
    · cases hr
    rename_i hm
    injection hr with hr; subst hr
    simp only [Bool.or_eq_true, not_or, Bool.not_eq_true] at hm
    have h1 := h.bare ty (LS.fresh (memB_false hm.1)) (hpn _ (memB_false hm.2))
    refine ⟨_, F, (h1.reenv (st' := (LS.mk (s.σ.put t (some (.own id 0 0 sz))) (s.H.put id (some (.row ty [])))).st) ?_ fun t' x hx => ?_)⟩
    · funext k
      show (s.H.put id (some (.row ty []))).get k = _
      rw [heap_get_put]; rfl
    · have hx' : (s.σ.put t (some (.own id 0 0 sz))).get t' = some x := hx
      rw [env_get_put] at hx'
      by_cases e : t' = t
      · rw [if_pos e] at hx'
        injection hx' with hx'; subst hx'; subst e
        intro z hz
        rw [Phi.set_eq] at hz; injection hz with hz; subst hz
        exact .inl ⟨rfl, h.env t' _ hσ, rfl, rfl⟩
      · rw [if_neg e] at hx'
        exact h1.env t' x hx'
  | opnB b k id ty sz =>
    simp only [Gh.run] at hr
    split at hr
    case h_2 => cases hr
    rename_i ty' cs hB
    split at hr
    case h_2 => cases hr
    rename_i hk
    split at hr
    · cases hr
    rename_i hm
    injection hr with hr; subst hr
    simp only [Bool.or_eq_true, not_or, Bool.not_eq_true] at hm
    have hid := memB_false hm.1
    have h1 := h.bare ty (LS.fresh hid) (hpn _ (memB_false hm.2))
    have hbid : b ≠ id := fun e => hid (LS.key_ids (by rw [← e]; exact get_keys hB))
    refine ⟨φ.set id (some none), F, ?_⟩
    have h2 : Sim C ((s.st.blk id (some (.row ty []))).blk b (some (.lit ty' (cs.set k (.own id 0 0 sz))))) a w (φ.set id (some none)) F := h1.reblk (by simp only [St.blk, if_neg hbid]; rw [show s.st.H b = some (.lit ty' cs) from hB]; simp) fun x hx => by
      have hx0 : φ b = some x := by rwa [Phi.set_ne hbid] at hx
      obtain ⟨x', hx', hs⟩ := h.own b _ hB
      rw [hx0] at hx'; injection hx' with hx'; subst hx'
      cases x with
      | none => obtain ⟨ty0, e⟩ := hs; cases e
      | some x =>
        obtain ⟨b0, N⟩ := x
        obtain ⟨⟨cur, e1, e2, e3, e4⟩, q2⟩ := hs
        refine ⟨⟨cur, e1, e2, by simpa using e3, fun j p hp => ?_⟩, q2⟩
        rw [List.getElem?_set] at hp
        split at hp
        · rename_i hkj
          subst hkj
          split at hp
          · injection hp with hp; subst hp
            obtain ⟨v, hv, hr, ho⟩ := e4 k _ hk
            refine ⟨v, hv, ?_, ho⟩
            intro z hz
            rw [Phi.set_eq] at hz; injection hz with hz; subst hz
            exact .inl ⟨rfl, hr, rfl, rfl⟩
          · cases hp
        · obtain ⟨v, hv, hr, ho⟩ := e4 j p hp
          refine ⟨v, hv, VR.congr p (fun i hi z hz => ?_) hr, ho⟩
          have hne : i ≠ id := fun e => (LS.fresh hid).own b _ hB (by rw [← e]; exact mem_idsOf (List.mem_of_getElem? hp) hi)
          rwa [Phi.set_ne hne] at hz
    have h3 := put_st_H ⟨s.σ, s.H.put id (some (.row ty []))⟩ b (some (.lit ty' (cs.set k (.own id 0 0 sz))))
    have h4 := put_st_H s id (some (.row ty []))
    simp only at h3
    rw [h3, h4]
    exact h2
  | frz id =>
    simp only [Gh.run] at hr
    split at hr
    case h_2 => cases hr
    rename_i ty cs hB
    injection hr with hr; subst hr
    exact gh_frz h hB
  | row id =>
    simp only [Gh.run] at hr
    split at hr
    case h_2 => cases hr
    rename_i ty cs hB
    split at hr
    case h_2 => cases hr
    rename_i ps hps
    injection hr with hr; subst hr
    refine ⟨φ, F, ?_⟩
    rw [put_st_H]
    refine h.reblk (by rw [show s.st.H id = some (.lit ty cs) from hB]; simp) fun x hx => ?_
    obtain ⟨x', hx', hs⟩ := h.own id _ hB
    rw [hx] at hx'; injection hx' with hx'; subst hx'
    cases x with
    | none => obtain ⟨ty0, e⟩ := hs; cases e
    | some x => exact ⟨BR.toRow hps hs.1, hs.2⟩
  | pureT t =>
    simp only [Gh.run] at hr
    split at hr
    case h_2 => cases hr
    rename_i x hx
    injection hr with hr; subst hr
    refine ⟨φ, F, ?_⟩
    rw [put_st_σ]
    refine h.reenv rfl fun t' y hy => ?_
    by_cases e : t' = t
    · subst e
      simp only [St.set, if_true, Option.some.injEq] at hy; subst hy
      exact VR.pur _ (h.env t' x hx)
    · exact h.env t' y (by simpa [St.set, e] using hy)
  | pureB id =>
    simp only [Gh.run] at hr
    split at hr
    case h_2 => cases hr
    rename_i ty cs hB
    injection hr with hr; subst hr
    refine ⟨φ, F, ?_⟩
    rw [put_st_H]
    refine h.reblk (by rw [show s.st.H id = some (.lit ty cs) from hB]; simp) fun x hx => ?_
    obtain ⟨x', hx', hs⟩ := h.own id _ hB
    rw [hx] at hx'; injection hx' with hx'; subst hx'
    cases x with
    | none => obtain ⟨ty0, e⟩ := hs; cases e
    | some x => exact ⟨BR.pur hs.1, hs.2⟩
  | castT t x =>
    injection hr with hr; subst hr
    simp only [Gh.cond] at hc
    refine ⟨φ, F, ?_⟩
    rw [put_st_σ]
    refine h.reenv rfl fun t' y hy => ?_
    by_cases e : t' = t
    · subst e
      simp only [St.set, if_true, Option.some.injEq] at hy; subst hy
      exact h.env t' x hc
    · exact h.env t' y (by simpa [St.set, e] using hy)
  | castB id B =>
    injection hr with hr; subst hr
    simp only [Gh.cond] at hc
    refine ⟨φ, F, ?_⟩
    rw [put_st_H]
    refine h.reblk (by rw [show s.st.H id = some B from hc]; simp) fun x hx => ?_
    obtain ⟨x', hx', hs⟩ := h.own id B hc
    rw [hx] at hx'; injection hx' with hx'; subst hx'
    exact hs
  | cut id m =>
    simp only [Gh.run] at hr
    split at hr
    case h_2 => cases hr
    rename_i ty cs hB
    injection hr with hr; subst hr
    refine ⟨φ, F, ?_⟩
    rw [put_st_H]
    refine h.reblk (by rw [show s.st.H id = some (.row ty cs) from hB]; simp) fun x hx => ?_
    obtain ⟨x', hx', hs⟩ := h.own id _ hB
    rw [hx] at hx'; injection hx' with hx'; subst hx'
    cases x with
    | none => obtain ⟨ty0, e⟩ := hs; injection e with e1 e2; subst e2; exact ⟨ty, by simp⟩
    | some x =>
      obtain ⟨b, N⟩ := x
      obtain ⟨⟨cur, e1, e2, e3, e4⟩, q2⟩ := hs
      refine ⟨⟨cur, e1, e2, by rw [List.length_take]; omega, fun j p hp => ?_⟩, q2⟩
      rw [List.getElem?_take] at hp
      split at hp
      · exact e4 j p hp
      · cases hp
  | frzTab id =>
    simp only [Gh.run] at hr
    split at hr
    case h_2 => cases hr
    rename_i ag kind m hB
    injection hr with hr; subst hr
    exact gh_frzTab h hB
theorem runGh_sound {pins : List Nat} (hp : ∀ id, C.pin id ≠ none → id ∈ pins) (hG : pins = [] → ∀ b, ¬ C.G b) : ∀ {gs : List Gh} {s s' : LS} {φ : Phi} {F : Nat → Prop}, runGh pins gs s = some s' → condGh pins gs s → Sim C s.st a w φ F →
    ∃ φ' F', Sim C s'.st a w φ' F'
  | [], s, s', φ, F, hr, _, h => by
    simp only [runGh, Option.some.injEq] at hr; subst hr
    exact ⟨φ, F, h⟩
  | g :: gs, s, s', φ, F, hr, hc, h => by
    simp only [runGh] at hr
    simp only [condGh] at hc
    split at hr
    case h_2 => cases hr
    rename_i s1 h1
    rw [h1] at hc
    obtain ⟨φ1, F1, h2⟩ := gh_sound hp hG h1 hc.1 h
    exact runGh_sound hp hG hr hc.2 h2
end
end Go.AM
end
