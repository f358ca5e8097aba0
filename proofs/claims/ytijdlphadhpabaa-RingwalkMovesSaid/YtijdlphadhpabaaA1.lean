/- The abstract machine: abstract values, what they say of the model's values and blocks, and that it is kept when the world goes on. -/
import Derived.Orders
import Derived.WalkKit
import Derived.Laws.Cover3
import Derived.Lib.SliceRun
import Derived.Laws.StructEq
section
namespace Go.AM
open Go Go.RowKit
/-- Pure data of one cell. 'sl cs n': a slice of n elements whose cells read as cs. -/
inductive PV where
  | int (k : IntKind) (n : Int)
  | bool (b : Bool)
  | str (s : ByteArray)
  | sl (cs : List PV) (n : Nat)
  | fn (f : Nat)
  | junk
/-- An abstract value. 'ptr', 'own', 'map' speak of a block that the call owns, by a number. -/
inductive AV where
  | p (v : PV)
  | agg (cs : List AV)
  | tup (vs : List AV)
  | ptr (id off : Nat)
  | rp (cs : List PV) (off : Nat)
  | own (id off len sz : Nat)
  | nils
  | nilm
  | map (id : Nat)
  | fn (f : Nat) (first caps : List AV)
/-- v reads as the datum p, through blocks of F alone. -/
inductive RV (w : World) (F : Nat → Prop) : Value → PV → Prop where
  | int {k : IntKind} {n : Int} (h : (Lit.int k n).wf = true) : RV w F (.int k n) (.int k n)
  | bool (b : Bool) : RV w F (.bool b) (.bool b)
  | str {s : ByteArray} (h : s.size ≤ maxLen) : RV w F (.string s) (.str s)
  | sl {a : Option Addr} {n c : Nat} {cs : List PV} (vs : Nat → Value) (hn : n ≤ c) (hc : c ≤ maxLen) (hz : a = none → n = 0)
      (ha : cs ≠ [] → ∃ ad, a = some ad ∧ F ad.block ∧ ∀ j, j < cs.length → w.cell? (ad.add j) = some (vs j))
      (hr : ∀ j p, cs[j]? = some p → RV w F (vs j) p) : RV w F (.slice a n c) (.sl cs n)
  | fn (f : Nat) : RV w F (.func (.func f) #[] #[]) (.fn f)
theorem block_add (a : Addr) (n : Nat) : (a.add n).block = a.block := by unfold Addr.add; split <;> rfl
theorem add_add (a : Addr) (i j : Nat) : (a.add i).add j = a.add (i + j) := by
  unfold Addr.add
  by_cases hi : i = 0 <;> by_cases hj : j = 0 <;> simp [hi, hj, Nat.add_assoc]
/-- The blocks of F hold what they held. -/
def KeptF (F : Nat → Prop) (w w' : World) : Prop := ∀ b, F b → w'.heap[b]? = w.heap[b]?
theorem KeptF.refl (F : Nat → Prop) (w : World) : KeptF F w w := fun _ _ => rfl
theorem KeptF.trans {F : Nat → Prop} {w w' w'' : World} (h : KeptF F w w') (k : KeptF F w' w'') : KeptF F w w'' := fun b hb => (k b hb).trans (h b hb)
theorem RV.keep {w w' : World} {F F' : Nat → Prop} {v : Value} {p : PV} (h : RV w F v p) (hF : ∀ b, F b → F' b) (hw : KeptF F w w') : RV w' F' v p := by
  induction h with
  | int h => exact .int h
  | bool b => exact .bool b
  | str h => exact .str h
  | sl vs hn hc hz ha _ ih =>
    refine .sl vs hn hc hz (fun hne => ?_) ih
    obtain ⟨ad, h1, h2, h3⟩ := ha hne
    exact ⟨ad, h1, hF _ h2, fun j hj => (World.cell?_of_block (by rw [block_add]; exact hw _ h2)).trans (h3 j hj)⟩
  | fn f => exact .fn f
theorem RV.oneCell {w : World} {F : Nat → Prop} {v : Value} {p : PV} (h : RV w F v p) : v.oneCell' = true := by cases h <;> rfl
theorem RV.cells {w : World} {F : Nat → Prop} {v : Value} {p : PV} (h : RV w F v p) : v.cells = #[v] := by cases h <;> rfl
/-- How many cells a block has, and the blocks of its entourage (rows that only this block speaks of). -/
structure Sz where
  n : Nat
  D : List Nat := []
/-- Where a numbered block lies: 'none': it is no longer spoken of; 'some none': an empty row without a block (a nil slice); 'some (some (b, N))': block b. -/
abbrev Phi := Nat → Option (Option (Nat × Sz))
mutual
def VR (φ : Phi) (F : Nat → Prop) (w : World) : AV → Value → Prop
  | .p x, v => RV w F v x
  | .agg cs, v => ∃ us : List Value, v = .agg us.toArray ∧ VRs φ F w cs us ∧ ∀ u ∈ us, u.oneCell' = true
  | .tup vs, v => ∃ us : List Value, v = .tuple us.toArray ∧ VRs φ F w vs us
  | .ptr id off, v => ∀ x, φ id = some x → ∃ b N, x = some (b, N) ∧ v = .pointer (some ⟨b, off, none⟩)
  | .rp cs off, v => ∃ (ad : Addr) (vs : Nat → Value), v = .pointer (some (ad.add off)) ∧ (cs ≠ [] → F ad.block) ∧ ∀ j p, cs[j]? = some p → w.cell? (ad.add j) = some (vs j) ∧ RV w F (vs j) p
  | .own id off len sz, v => ∀ x, φ id = some x → (x = none ∧ v = .slice none 0 0 ∧ len = 0 ∧ off = 0) ∨
      ∃ b N c, x = some (b, N) ∧ v = .slice (some ⟨b, off, none⟩) len c ∧ len ≤ c ∧ c ≤ maxLen ∧ off + c * sz ≤ N.n
  | .nils, v => v = .slice none 0 0
  | .nilm, v => v = .map none
  | .map id, v => ∀ x, φ id = some x → ∃ b N, x = some (b, N) ∧ v = .map (some b)
  | .fn f first caps, v => ∃ us ws : List Value, v = .func (.func f) us.toArray ws.toArray ∧ VRs φ F w first us ∧ VRs φ F w caps ws
def VRs (φ : Phi) (F : Nat → Prop) (w : World) : List AV → List Value → Prop
  | [], us => us = []
  | a :: as, us => ∃ u r, us = u :: r ∧ VR φ F w a u ∧ VRs φ F w as r
end
/-- φ' says no more than φ. -/
def Phi.Le (φ' φ : Phi) : Prop := ∀ id x, φ' id = some x → φ id = some x
theorem Phi.Le.refl (φ : Phi) : φ.Le φ := fun _ _ h => h
mutual
theorem VR.keep {φ φ' : Phi} {F F' : Nat → Prop} {w w' : World} (hφ : φ'.Le φ) (hF : ∀ b, F b → F' b) (hw : KeptF F w w') : ∀ (x : AV) {v : Value}, VR φ F w x v → VR φ' F' w' x v
  | .p _, _, h => RV.keep h hF hw
  | .agg cs, _, ⟨us, e, h, ho⟩ => ⟨us, e, VRs.keep hφ hF hw cs h, ho⟩
  | .tup cs, _, ⟨us, e, h⟩ => ⟨us, e, VRs.keep hφ hF hw cs h⟩
  | .ptr _ _, _, h => fun x hx => h x (hφ _ _ hx)
  | .rp cs off, _, ⟨ad, vs, e, h1, h2⟩ => ⟨ad, vs, e, fun hne => hF _ (h1 hne), fun j p hp => by
      obtain ⟨h3, h4⟩ := h2 j p hp
      have hne : cs ≠ [] := by rintro rfl; simp at hp
      exact ⟨(World.cell?_of_block (by rw [block_add]; exact hw _ (h1 hne))).trans h3, h4.keep hF hw⟩⟩
  | .own _ _ _ _, _, h => fun x hx => h x (hφ _ _ hx)
  | .nils, _, h => h
  | .nilm, _, h => h
  | .map _, _, h => fun x hx => h x (hφ _ _ hx)
  | .fn _ first caps, _, ⟨us, ws, e, h1, h2⟩ => ⟨us, ws, e, VRs.keep hφ hF hw first h1, VRs.keep hφ hF hw caps h2⟩
theorem VRs.keep {φ φ' : Phi} {F F' : Nat → Prop} {w w' : World} (hφ : φ'.Le φ) (hF : ∀ b, F b → F' b) (hw : KeptF F w w') : ∀ (l : List AV) {us : List Value}, VRs φ F w l us → VRs φ' F' w' l us
  | [], _, h => h
  | a :: as, _, ⟨u, r, e, h1, h2⟩ => ⟨u, r, e, VR.keep hφ hF hw a h1, VRs.keep hφ hF hw as h2⟩
end
/-- The numbers that an abstract value speaks of. -/
def AV.ids : AV → List Nat
  | .p _ | .rp _ _ | .nils | .nilm => []
  | .agg cs | .tup cs => idsOf cs
  | .ptr id _ | .own id _ _ _ | .map id => [id]
  | .fn _ first caps => idsOf first ++ idsOf caps
  where idsOf : List AV → List Nat
  | [] => []
  | a :: as => a.ids ++ idsOf as
/-- The same block of the same size; the entourage may be another. -/
def Like : Option (Nat × Sz) → Option (Nat × Sz) → Prop
  | none, none => True
  | some (b, N), some (b', N') => b = b' ∧ N.n = N'.n
  | _, _ => False
theorem Like.refl (x : Option (Nat × Sz)) : Like x x := by cases x with | none => trivial | some x => exact ⟨rfl, rfl⟩
theorem Like.to_none_aux {y : Option (Nat × Sz)} (h : Like none y) : y = none := by cases y with | none => rfl | some y => exact h.elim
theorem Like.trans {x y z : Option (Nat × Sz)} (h : Like x y) (k : Like y z) : Like x z := by
  cases x with
  | none => rw [h.to_none_aux] at k; exact k
  | some x =>
    obtain ⟨b, N⟩ := x
    cases y with
    | none => exact h.elim
    | some y =>
      obtain ⟨b', N'⟩ := y
      obtain ⟨rfl, h2⟩ := h
      cases z with
      | none => exact k.elim
      | some z => obtain ⟨b'', N''⟩ := z; obtain ⟨rfl, k2⟩ := k; exact ⟨rfl, h2.trans k2⟩
theorem Like.to {b : Nat} {N : Sz} {y : Option (Nat × Sz)} (h : Like (some (b, N)) y) : ∃ N', y = some (b, N') ∧ N.n = N'.n := by
  cases y with
  | none => exact h.elim
  | some y => obtain ⟨b', N'⟩ := y; obtain ⟨rfl, h2⟩ := h; exact ⟨N', rfl, h2⟩
theorem Like.to_none {y : Option (Nat × Sz)} (h : Like none y) : y = none := by cases y with | none => rfl | some y => exact h.elim
def Cong (φ φ' : Phi) (l : List Nat) : Prop := ∀ id ∈ l, ∀ y, φ' id = some y → ∃ x, φ id = some x ∧ Like x y
theorem Cong.of {φ φ' : Phi} {l : List Nat} (h : ∀ id ∈ l, ∀ y, φ' id = some y → φ id = some y) : Cong φ φ' l := fun id hi y hy => ⟨y, h id hi y hy, Like.refl y⟩
mutual
/-- Only what φ says of the numbers that are spoken of matters. -/
theorem VR.cong {φ φ' : Phi} {F : Nat → Prop} {w : World} : ∀ (x : AV), Cong φ φ' x.ids → ∀ {v : Value}, VR φ F w x v → VR φ' F w x v
  | .p _, _, _, h => h
  | .agg cs, hφ, _, ⟨us, e, h, ho⟩ => ⟨us, e, VRs.cong cs hφ h, ho⟩
  | .tup cs, hφ, _, ⟨us, e, h⟩ => ⟨us, e, VRs.cong cs hφ h⟩
  | .ptr id off, hφ, _, h => fun y hy => by
    obtain ⟨x, hx, hl⟩ := hφ id (by simp [AV.ids]) y hy
    obtain ⟨b, N, rfl, e⟩ := h x hx
    obtain ⟨N', rfl, _⟩ := hl.to
    exact ⟨b, N', rfl, e⟩
  | .rp _ _, _, _, h => h
  | .own id _ _ _, hφ, _, h => fun y hy => by
    obtain ⟨x, hx, hl⟩ := hφ id (by simp [AV.ids]) y hy
    rcases h x hx with ⟨rfl, e1, e2, e3⟩ | ⟨b, N, c, rfl, e, h1, h2, h3⟩
    · exact .inl ⟨hl.to_none, e1, e2, e3⟩
    · obtain ⟨N', rfl, hn⟩ := hl.to
      exact .inr ⟨b, N', c, rfl, e, h1, h2, by rw [← hn]; exact h3⟩
  | .nils, _, _, h => h
  | .nilm, _, _, h => h
  | .map id, hφ, _, h => fun y hy => by
    obtain ⟨x, hx, hl⟩ := hφ id (by simp [AV.ids]) y hy
    obtain ⟨b, N, rfl, e⟩ := h x hx
    obtain ⟨N', rfl, _⟩ := hl.to
    exact ⟨b, N', rfl, e⟩
  | .fn _ first caps, hφ, _, ⟨us, ws, e, h1, h2⟩ =>
    ⟨us, ws, e, VRs.cong first (fun id hi => hφ id (by simp [AV.ids, hi])) h1, VRs.cong caps (fun id hi => hφ id (by simp [AV.ids, hi])) h2⟩
theorem VRs.cong {φ φ' : Phi} {F : Nat → Prop} {w : World} : ∀ (l : List AV), Cong φ φ' (AV.ids.idsOf l) → ∀ {us : List Value}, VRs φ F w l us → VRs φ' F w l us
  | [], _, _, h => h
  | a :: as, hφ, _, ⟨u, r, e, h1, h2⟩ =>
    ⟨u, r, e, VR.cong a (fun id hi => hφ id (by simp [AV.ids.idsOf, hi])) h1, VRs.cong as (fun id hi => hφ id (by simp [AV.ids.idsOf, hi])) h2⟩
end
theorem VR.congr {φ φ' : Phi} {F : Nat → Prop} {w : World} (x : AV) (hφ : ∀ id ∈ x.ids, ∀ y, φ' id = some y → φ id = some y) {v : Value} (h : VR φ F w x v) : VR φ' F w x v := VR.cong x (Cong.of hφ) h
theorem VRs.length {φ : Phi} {F : Nat → Prop} {w : World} : ∀ {l : List AV} {us : List Value}, VRs φ F w l us → us.length = l.length
  | [], _, h => by rw [VRs] at h; subst h; rfl
  | a :: as, us, h => by
    rw [VRs] at h
    obtain ⟨u, r, rfl, _, h2⟩ := h
    simp [h2.length]
theorem VRs.get {φ : Phi} {F : Nat → Prop} {w : World} : ∀ {l : List AV} {us : List Value}, VRs φ F w l us → ∀ (j : Nat) (x : AV), l[j]? = some x → ∃ v, us[j]? = some v ∧ VR φ F w x v
  | [], _, _, j, x, hx => by simp at hx
  | a :: as, us, h, j, x, hx => by
    rw [VRs] at h
    obtain ⟨u, r, rfl, h1, h2⟩ := h
    match j with
    | 0 => simp at hx; subst hx; exact ⟨u, rfl, h1⟩
    | j + 1 => simp only [List.getElem?_cons_succ] at hx ⊢; exact h2.get j x hx
theorem VRs.mk {φ : Phi} {F : Nat → Prop} {w : World} : ∀ {l : List AV} {us : List Value}, us.length = l.length → (∀ (j : Nat) (x : AV) (v : Value), l[j]? = some x → us[j]? = some v → VR φ F w x v) → VRs φ F w l us
  | [], us, hl, _ => by rw [VRs]; simpa using hl
  | a :: as, us, hl, h => by
    rw [VRs]
    match us, hl with
    | u :: r, hl => exact ⟨u, r, rfl, h 0 a u rfl rfl, VRs.mk (by simpa using hl) fun j x v h1 h2 => h (j + 1) x v (by simpa using h1) (by simpa using h2)⟩
theorem VRs.append {φ : Phi} {F : Nat → Prop} {w : World} : ∀ {l l' : List AV} {us us' : List Value}, VRs φ F w l us → VRs φ F w l' us' → VRs φ F w (l ++ l') (us ++ us')
  | [], _, us, _, h, k => by rw [VRs] at h; subst h; simpa using k
  | a :: as, _, us, _, h, k => by
    rw [VRs] at h
    obtain ⟨u, r, rfl, h1, h2⟩ := h
    simp only [List.cons_append]
    rw [VRs]
    exact ⟨u, _, rfl, h1, h2.append k⟩
mutual
/-- Nil slices as pure data. -/
def AV.pur : AV → AV
  | .agg cs => .agg (AV.purL cs)
  | .tup vs => .tup (AV.purL vs)
  | .nils => .p (.sl [] 0)
  | x => x
def AV.purL : List AV → List AV
  | [] => []
  | a :: as => AV.pur a :: AV.purL as
end
section
variable {φ : Phi} {F : Nat → Prop} {w : World}
mutual
theorem VR.pur : ∀ (x : AV) {v : Value}, VR φ F w x v → VR φ F w x.pur v
  | .p _, _, h => h
  | .agg cs, _, ⟨us, e, h, ho⟩ => ⟨us, e, VRs.pur cs h, ho⟩
  | .tup cs, _, ⟨us, e, h⟩ => ⟨us, e, VRs.pur cs h⟩
  | .ptr _ _, _, h => h
  | .rp _ _, _, h => h
  | .own _ _ _ _, _, h => h
  | .nils, v, h => by
    rw [VR] at h
    subst h
    rw [AV.pur]
    exact RV.sl (fun _ => undef) (Nat.le_refl 0) (by unfold maxLen; omega) (fun _ => rfl) (fun h => absurd rfl h) (fun j p hp => by simp at hp)
  | .nilm, _, h => h
  | .map _, _, h => h
  | .fn _ _ _, _, h => h
theorem VRs.pur : ∀ (l : List AV) {us : List Value}, VRs φ F w l us → VRs φ F w (AV.purL l) us
  | [], _, h => by rw [AV.purL]; exact h
  | a :: as, _, ⟨u, r', e, h1, h2⟩ => by
    rw [AV.purL]
    exact ⟨u, r', e, VR.pur a h1, VRs.pur as h2⟩
end
end
/-- A block that the call owns. 'row': pure data, of any length; 'lit': cells one by one; 'tab': a map: its entries' keys (integers; 'ag': of how many fields, 0 for no struct), and what their values read as (slices, each in a row of its own); 'ptab': a map whose values are pure data. -/
inductive ABlk where
  | row (ty : TypeId) (cs : List PV)
  | lit (ty : TypeId) (cs : List AV)
  | tab (ag : Nat) (kind : Nat) (m : List (List Int × List PV × Nat))
  | ptab (ag : Nat) (m : List (List Int × PV))
  | ptx (ag : Nat) (m : List (List Int × PV)) (es : Array MapEntry) (clock b0 : Nat)
  | obj (o : Obj)
def ABlk.ids : ABlk → List Nat
  | .row _ _ => []
  | .lit _ cs => AV.ids.idsOf cs
  | .tab _ _ _ => []
  | .ptab _ _ => []
  | .ptx _ _ _ _ _ => []
  | .obj _ => []
/-- n fits the kind of Go's int. -/
def In64 (n : Int) : Prop := -9223372036854775808 ≤ n ∧ n ≤ 9223372036854775807
/-- A key of integers as one value. -/
def KI (ag : Nat) (k : List Int) (v : Value) : Prop :=
  (∀ n ∈ k, In64 n) ∧ if ag = 0 then ∃ n, k = [n] ∧ v = .int .i64 n else k.length = ag ∧ v = .agg (k.map fun n => Value.int .i64 n).toArray
/-- A slice in a row of its own (D: the row's block), or none. kind: the cells' type. -/
def TR (w : World) (F : Nat → Prop) (kind : Nat) (cs : List PV) (n : Nat) (v : Value) (D : List Nat) : Prop :=
  (v = .slice none 0 0 ∧ cs = [] ∧ n = 0 ∧ D = []) ∨
  ∃ d c cur, v = .slice (some ⟨d, 0, none⟩) n c ∧ D = [d] ∧ n ≤ c ∧ c ≤ maxLen ∧ w.heap[d]? = some (.cells cur kind (0, 0)) ∧ c ≤ cur.size ∧ cs.length = n ∧ ∀ (j : Nat) (p : PV), cs[j]? = some p → ∃ u, cur[j]? = some u ∧ RV w F u p
def TRs (ag : Nat) (w : World) (F : Nat → Prop) (kind : Nat) : List (List Int × List PV × Nat) → List MapEntry → List Nat → Prop
  | [], [], D => D = []
  | (k, cs, n) :: m, e :: es, D => ∃ D1 D2, D = D1 ++ D2 ∧ KI ag k e.key ∧ TR w F kind cs n e.val D1 ∧ TRs ag w F kind m es D2
  | _, _, _ => False
def PRs (ag : Nat) (w : World) (F : Nat → Prop) : List (List Int × PV) → List MapEntry → Prop
  | [], [] => True
  | (k, p) :: m, e :: es => KI ag k e.key ∧ RV w F e.val p ∧ PRs ag w F m es
  | _, _ => False
/-- Entries' stamps: all different, none from the time to come. -/
def Stamps (es : List MapEntry) (clock : Nat) : Prop := (es.map (·.born)).Nodup ∧ ∀ e ∈ es, e.born < clock
def BR (φ : Phi) (F : Nat → Prop) (w : World) (b : Nat) (N : Sz) : ABlk → Prop
  | .row ty cs => ∃ cur : Array Value, w.heap[b]? = some (.cells cur ty (0, 0)) ∧ (cur.size = N.n ∧ N.D = []) ∧ cs.length ≤ N.n ∧ ∀ (j : Nat) (p : PV), cs[j]? = some p → ∃ v, cur[j]? = some v ∧ RV w F v p
  | .lit ty cs => ∃ cur : Array Value, w.heap[b]? = some (.cells cur ty (0, 0)) ∧ (cur.size = N.n ∧ N.D = []) ∧ cs.length ≤ N.n ∧ ∀ (j : Nat) (p : AV), cs[j]? = some p → ∃ v, cur[j]? = some v ∧ VR φ F w p v ∧ v.oneCell' = true
  | .tab ag kind m => ∃ (es : Array MapEntry) (clock : Nat), w.heap[b]? = some (.map es clock) ∧ (b :: N.D).Nodup ∧ Stamps es.toList clock ∧ TRs ag w F kind m es.toList N.D
  | .ptab ag m => ∃ (es : Array MapEntry) (clock : Nat), w.heap[b]? = some (.map es clock) ∧ N.D = [] ∧ Stamps es.toList clock ∧ PRs ag w F m es.toList
  | .ptx ag m es clock b0 => b = b0 ∧ w.heap[b]? = some (.map es clock) ∧ N.D = [] ∧ Stamps es.toList clock ∧ PRs ag w F m es.toList
  | .obj o => w.heap[b]? = some o ∧ N.D = []
theorem TR.keep {w w' : World} {F F' : Nat → Prop} {kind n : Nat} {cs : List PV} {v : Value} {D : List Nat} (hF : ∀ b, F b → F' b) (hw : KeptF F w w') (hD : ∀ c ∈ D, w'.heap[c]? = w.heap[c]?) : TR w F kind cs n v D → TR w' F' kind cs n v D
  | .inl h => .inl h
  | .inr ⟨d, c, cur, e, eD, h1, h2, h3, h4, h5, h6⟩ => .inr ⟨d, c, cur, e, eD, h1, h2, (hD d (by rw [eD]; simp)).trans h3, h4, h5, fun j p hp => let ⟨u, q1, q2⟩ := h6 j p hp; ⟨u, q1, q2.keep hF hw⟩⟩
theorem TRs.keep {ag : Nat} {w w' : World} {F F' : Nat → Prop} {kind : Nat} (hF : ∀ b, F b → F' b) (hw : KeptF F w w') : ∀ {m : List (List Int × List PV × Nat)} {es : List MapEntry} {D : List Nat}, (∀ c ∈ D, w'.heap[c]? = w.heap[c]?) → TRs ag w F kind m es D → TRs ag w' F' kind m es D
  | [], [], _, _, h => h
  | (k, cs, n) :: m, e :: es, D, hD, ⟨D1, D2, eD, h1, h2, h3⟩ => ⟨D1, D2, eD, h1, h2.keep hF hw (fun c hc => hD c (by rw [eD]; simp [hc])), TRs.keep hF hw (fun c hc => hD c (by rw [eD]; simp [hc])) h3⟩
  | [], _ :: _, _, _, h => h.elim
  | _ :: _, [], _, _, h => h.elim
theorem PRs.keep {ag : Nat} {w w' : World} {F F' : Nat → Prop} (hF : ∀ b, F b → F' b) (hw : KeptF F w w') : ∀ {m : List (List Int × PV)} {es : List MapEntry}, PRs ag w F m es → PRs ag w' F' m es
  | [], [], _ => trivial
  | (_, _) :: _, _ :: _, ⟨h1, h2, h3⟩ => ⟨h1, h2.keep hF hw, PRs.keep hF hw h3⟩
  | [], _ :: _, h => h.elim
  | _ :: _, [], h => h.elim
theorem TRs.lt {ag : Nat} {w : World} {F : Nat → Prop} {kind : Nat} : ∀ {m : List (List Int × List PV × Nat)} {es : List MapEntry} {D : List Nat}, TRs ag w F kind m es D → ∀ c ∈ D, c < w.heap.size
  | [], [], _, h, c, hc => by rw [TRs] at h; subst h; cases hc
  | (k, cs, n) :: m, e :: es, D, ⟨D1, D2, eD, h1, h2, h3⟩, c, hc => by
    subst eD
    rcases List.mem_append.1 hc with hc | hc
    · rcases h2 with ⟨_, _, _, rfl⟩ | ⟨d, _, cur, _, rfl, _, _, h, _⟩
      · cases hc
      · simp only [List.mem_singleton] at hc; subst hc
        exact (Array.getElem?_eq_some_iff.1 h).1
    · exact h3.lt c hc
  | [], _ :: _, _, h, _, _ => h.elim
  | _ :: _, [], _, h, _, _ => h.elim
theorem BR.keep {φ φ' : Phi} {F F' : Nat → Prop} {w w' : World} (hφ : φ'.Le φ) (hF : ∀ b, F b → F' b) (hw : KeptF F w w') {b : Nat} {N : Sz} (hb : w'.heap[b]? = w.heap[b]?)
    (hN : ∀ c ∈ N.D, w'.heap[c]? = w.heap[c]? := by intro _ _; rfl) : ∀ {B : ABlk}, BR φ F w b N B → BR φ' F' w' b N B
  | .row _ _, ⟨cur, h1, h2, h3, h4⟩ => ⟨cur, hb.trans h1, h2, h3, fun j p hp => by
      obtain ⟨v, hv, hr⟩ := h4 j p hp
      exact ⟨v, hv, hr.keep hF hw⟩⟩
  | .lit _ _, ⟨cur, h1, h2, h3, h4⟩ => ⟨cur, hb.trans h1, h2, h3, fun j p hp => by
      obtain ⟨v, hv, hr, ho⟩ := h4 j p hp
      exact ⟨v, hv, VR.keep hφ hF hw _ hr, ho⟩⟩
  | .tab _ _ _, ⟨es, clock, h1, h2, h3, h4⟩ => ⟨es, clock, hb.trans h1, h2, h3, h4.keep hF hw hN⟩
  | .ptab _ _, ⟨es, clock, h1, h2, h3, h4⟩ => ⟨es, clock, hb.trans h1, h2, h3, h4.keep hF hw⟩
  | .ptx _ _ _ _ _, ⟨h0, h1, h2, h3, h4⟩ => ⟨h0, hb.trans h1, h2, h3, h4.keep hF hw⟩
  | .obj _, ⟨h1, h2⟩ => ⟨hb.trans h1, h2⟩
theorem mem_idsOf {x : AV} {l : List AV} (h : x ∈ l) {id : Nat} (hi : id ∈ x.ids) : id ∈ AV.ids.idsOf l := by
  induction l with
  | nil => cases h
  | cons a as ih =>
    simp only [AV.ids.idsOf, List.mem_append]
    rcases List.mem_cons.1 h with rfl | h
    · exact .inl hi
    · exact .inr (ih h)
theorem BR.cong {φ φ' : Phi} {F : Nat → Prop} {w : World} {b : Nat} {N : Sz} : ∀ {B : ABlk}, Cong φ φ' B.ids → BR φ F w b N B → BR φ' F w b N B
  | .row _ _, _, h => h
  | .lit _ _, hφ, ⟨cur, h1, h2, h3, h4⟩ => ⟨cur, h1, h2, h3, fun j p hp => by
      obtain ⟨v, hv, hr, ho⟩ := h4 j p hp
      exact ⟨v, hv, VR.cong _ (fun id hi => hφ id (mem_idsOf (List.mem_of_getElem? hp) hi)) hr, ho⟩⟩
  | .tab _ _ _, _, h => h
  | .ptab _ _, _, h => h
  | .ptx _ _ _ _ _, _, h => h
  | .obj _, _, h => h
theorem BR.congr {φ φ' : Phi} {F : Nat → Prop} {w : World} {b : Nat} {N : Sz} {B : ABlk} (hφ : ∀ id ∈ B.ids, ∀ y, φ' id = some y → φ id = some y) (h : BR φ F w b N B) : BR φ' F w b N B := BR.cong (Cong.of hφ) h
theorem BR.lt {φ : Phi} {F : Nat → Prop} {w : World} {b : Nat} {N : Sz} {B : ABlk} (h : BR φ F w b N B) : b < w.heap.size := by
  cases B with
  | row ty cs => obtain ⟨cur, h1, _⟩ := h; exact (Array.getElem?_eq_some_iff.1 h1).1
  | lit ty cs => obtain ⟨cur, h1, _⟩ := h; exact (Array.getElem?_eq_some_iff.1 h1).1
  | tab ag kind m => obtain ⟨es, clock, h1, _⟩ := h; exact (Array.getElem?_eq_some_iff.1 h1).1
  | ptab ag m => obtain ⟨es, clock, h1, _⟩ := h; exact (Array.getElem?_eq_some_iff.1 h1).1
  | ptx ag m es clock b0 => exact (Array.getElem?_eq_some_iff.1 h.2.1).1
  | obj o => exact (Array.getElem?_eq_some_iff.1 h.1).1
theorem BR.ltD {φ : Phi} {F : Nat → Prop} {w : World} {b : Nat} {N : Sz} {B : ABlk} (h : BR φ F w b N B) : ∀ c ∈ N.D, c < w.heap.size := by
  cases B with
  | row ty cs => obtain ⟨cur, _, h2, _⟩ := h; intro c hc; rw [h2.2] at hc; cases hc
  | lit ty cs => obtain ⟨cur, _, h2, _⟩ := h; intro c hc; rw [h2.2] at hc; cases hc
  | tab ag kind m => obtain ⟨es, clock, _, _, _, h4⟩ := h; exact h4.lt
  | ptab ag m => obtain ⟨es, clock, _, h2, _⟩ := h; intro c hc; rw [h2] at hc; cases hc
  | ptx ag m es clock b0 => intro c hc; rw [h.2.2.1] at hc; cases hc
  | obj o => intro c hc; rw [h.2] at hc; cases hc
end Go.AM
end
section
namespace Go.AM
open Go Go.RowKit
structure St where
  σ : Nat → Option AV
  H : Nat → Option ABlk
def St.set (st : St) (d : Nat) (v : Option AV) : St := { st with σ := fun t => if t = d then v else st.σ t }
def St.blk (st : St) (id : Nat) (B : Option ABlk) : St := { st with H := fun i => if i = id then B else st.H i }
def Phi.set (φ : Phi) (id : Nat) (x : Option (Option (Nat × Sz))) : Phi := fun i => if i = id then x else φ i
/-- The call that is walked: its world when it began, its frame's size, the blocks of F0 through which its arguments are read, the blocks G of old memory that it may write, and where the numbered ones of them lie. -/
structure Ctx where
  w0 : World
  nt : Nat
  F0 : Nat → Prop
  G : Nat → Prop
  pin : Nat → Option (Option (Nat × Sz))
def Spot (C : Ctx) (φ : Phi) (F : Nat → Prop) (w : World) (B : ABlk) : Option (Nat × Sz) → Prop
  | none => ∃ ty, B = .row ty []
  | some (b, N) => BR φ F w b N B ∧ ¬ F b ∧ (C.G b ∨ C.w0.heap.size ≤ b)
structure Sim (C : Ctx) (st : St) (a : Act) (w : World) (φ : Phi) (F : Nat → Prop) : Prop where
  nt : a.tmps.size = C.nt
  df : a.defers = []
  os : w.os = C.w0.os
  tape : w.tape = C.w0.tape
  output : w.output = C.w0.output
  size : C.w0.heap.size ≤ w.heap.size
  old : ∀ b, b < C.w0.heap.size → ¬ C.G b → w.heap[b]? = C.w0.heap[b]?
  Fd : ∀ b, F b → b < w.heap.size
  Fo : ∀ b, F b → C.F0 b ∨ C.G b ∨ C.w0.heap.size ≤ b
  Fi : ∀ b, C.F0 b → F b
  env : ∀ t x, st.σ t = some x → VR φ F w x (a.tmps.getD t undef)
  own : ∀ id B, st.H id = some B → ∃ x, φ id = some x ∧ Spot C φ F w B x
  dom : ∀ id x, φ id = some x → st.H id ≠ none
  inj : ∀ id id' b N N', φ id = some (some (b, N)) → φ id' = some (some (b, N')) → id = id'
  sep : ∀ id id' b b' N N' c, φ id = some (some (b, N)) → φ id' = some (some (b', N')) → c ∈ N.D → c = b' ∨ c ∈ N'.D → id = id' ∧ c ≠ b'
  Dok : ∀ id b N, φ id = some (some (b, N)) → ∀ c ∈ N.D, c < w.heap.size ∧ ¬ F c ∧ (C.G c ∨ C.w0.heap.size ≤ c)
  pin : ∀ id x, C.pin id = some x → st.H id ≠ none → ∃ y, φ id = some y ∧ Like x y
structure Fresh (st : St) (id : Nat) : Prop where
  blk : st.H id = none
  env : ∀ t x, st.σ t = some x → id ∉ x.ids
  own : ∀ i B, st.H i = some B → id ∉ B.ids
section
variable {C : Ctx} {st : St} {a : Act} {w w' : World} {φ : Phi} {F : Nat → Prop}
theorem getD_put_same {a : Act} {d : Nat} (h : d < a.tmps.size) (v : Value) : (a.put (some d) v).tmps.getD d undef = v := by simp [Act.put, h]
theorem getD_put_other {a : Act} {d t : Nat} (h : t ≠ d) (v : Value) : (a.put (some d) v).tmps.getD t undef = a.tmps.getD t undef := by
  simp [Act.put, Array.getElem?_setIfInBounds_ne (Ne.symm h)]
theorem Sim.put (h : Sim C st a w φ F) {d : Nat} (hd : d < C.nt) {v : Value} {x : Option AV} (hx : ∀ y, x = some y → VR φ F w y v) : Sim C (st.set d x) (a.put (some d) v) w φ F where
  nt := by simpa [Act.put] using h.nt
  df := h.df
  os := h.os
  tape := h.tape
  output := h.output
  size := h.size
  old := h.old
  Fd := h.Fd
  Fo := h.Fo
  Fi := h.Fi
  env := fun t y hy => by
    by_cases ht : t = d
    · subst ht
      rw [getD_put_same (by rw [h.nt]; exact hd)]
      exact hx y (by simpa [St.set] using hy)
    · rw [getD_put_other ht]
      exact h.env t y (by simpa [St.set, ht] using hy)
  own := h.own
  dom := h.dom
  inj := h.inj
  sep := h.sep
  Dok := h.Dok
  pin := h.pin
theorem Sim.putAny (h : Sim C st a w φ F) {dst : Option Nat} (hd : ∀ d, dst = some d → d < C.nt) {v : Value} {x : Option AV} (hx : ∀ y, x = some y → VR φ F w y v) :
    Sim C (match (dst : Option Nat) with | some d => st.set d x | none => st) (a.put dst v) w φ F := by
  cases dst with
  | none => exact h
  | some d => exact h.put (hd d rfl) hx
/-- Forgetting. -/
theorem Sim.less (h : Sim C st a w φ F) {st' : St} {φ' : Phi} (hφ : φ'.Le φ) (hσ : ∀ t x, st'.σ t = some x → st.σ t = some x)
    (hH : ∀ id B, st'.H id = some B → st.H id = some B ∧ φ' id = φ id) (hd : ∀ id x, φ' id = some x → st'.H id ≠ none) : Sim C st' a w φ' F where
  nt := h.nt
  df := h.df
  os := h.os
  tape := h.tape
  output := h.output
  size := h.size
  old := h.old
  Fd := h.Fd
  Fo := h.Fo
  Fi := h.Fi
  env := fun t x hx => VR.keep hφ (fun _ k => k) (KeptF.refl F w) _ (h.env t x (hσ t x hx))
  own := fun id B hB => by
    obtain ⟨h1, h2⟩ := hH id B hB
    obtain ⟨x, hx, hs⟩ := h.own id B h1
    refine ⟨x, h2.trans hx, ?_⟩
    cases x with
    | none => exact hs
    | some x => exact ⟨hs.1.keep hφ (fun _ k => k) (KeptF.refl F w) rfl, hs.2⟩
  dom := hd
  inj := fun id id' b N N' h1 h2 => h.inj id id' b N N' (hφ _ _ h1) (hφ _ _ h2)
  sep := fun id id' b b' N N' c h1 h2 => h.sep id id' b b' N N' c (hφ _ _ h1) (hφ _ _ h2)
  Dok := fun id b N h1 => h.Dok id b N (hφ _ _ h1)
  pin := fun id x hp hne => by
    cases hB : st'.H id with
    | none => exact absurd hB hne
    | some B =>
      obtain ⟨h1, h2⟩ := hH id B hB
      rw [h2]
      exact h.pin id x hp (by rw [h1]; simp)
/-- A draw. -/
theorem Sim.drew (h : Sim C st a w φ F) : Sim C st a w.drew φ F where
  nt := h.nt
  df := h.df
  os := h.os
  tape := h.tape
  output := h.output
  size := h.size
  old := h.old
  Fd := h.Fd
  Fo := h.Fo
  Fi := h.Fi
  env := fun t x hx => VR.keep (w := w) (w' := w.drew) (Phi.Le.refl φ) (fun _ k => k) (fun _ _ => rfl) _ (h.env t x hx)
  own := fun id B hB => by
    obtain ⟨x, hx, hs⟩ := h.own id B hB
    refine ⟨x, hx, ?_⟩
    cases x with
    | none => exact hs
    | some x => exact ⟨hs.1.keep (w := w) (w' := w.drew) (Phi.Le.refl φ) (fun _ k => k) (fun _ _ => rfl) rfl, hs.2⟩
  dom := h.dom
  inj := h.inj
  sep := h.sep
  Dok := h.Dok
  pin := h.pin
theorem Phi.set_ne {φ : Phi} {id i : Nat} {y} (h : i ≠ id) : φ.set id y i = φ i := by simp [Phi.set, h]
theorem Phi.set_eq {φ : Phi} {id : Nat} {y} : φ.set id y id = y := by simp [Phi.set]
/-- A block goes out of sight. -/
theorem Sim.kill (h : Sim C st a w φ F) (id : Nat) : Sim C (st.blk id none) a w (φ.set id none) F := by
  refine h.less (fun i x hx => ?_) (fun _ _ hx => hx) (fun i B hB => ?_) (fun i x hx => ?_)
  · by_cases hi : i = id
    · subst hi; simp [Phi.set] at hx
    · simpa [Phi.set, hi] using hx
  · by_cases hi : i = id
    · subst hi; simp [St.blk] at hB
    · exact ⟨by simpa [St.blk, hi] using hB, Phi.set_ne hi⟩
  · by_cases hi : i = id
    · subst hi; simp [Phi.set] at hx
    · simp only [St.blk, if_neg hi]
      exact h.dom i x (by simpa [Phi.set, hi] using hx)
/-- The world goes on, what is spoken of stays where it is and as it is, but for block 'id', which is now B' (or is new). -/
theorem Sim.turn (h : Sim C st a w φ F) {id : Nat} {B' : ABlk} {y : Option (Nat × Sz)} {F' : Nat → Prop}
    (hnew : φ id = some y ∨ Fresh st id ∧ C.pin id = none)
    (hos : w'.os = w.os) (htape : w'.tape = w.tape) (hout : w'.output = w.output) (hsize : w.heap.size ≤ w'.heap.size)
    (hF : ∀ b, F b → F' b) (hF' : ∀ b, F' b → b < w'.heap.size ∧ (F b ∨ w.heap.size ≤ b))
    (hkeep : ∀ b, b < w.heap.size → (∀ N, y ≠ some (b, N)) → w'.heap[b]? = w.heap[b]?)
    (hy : ∀ b N, y = some (b, N) → ¬ F' b ∧ (C.G b ∨ C.w0.heap.size ≤ b) ∧ ∀ i N', φ i = some (some (b, N')) → i = id)
    (hyD : ∀ b N, y = some (b, N) → N.D = [] ∧ ∀ i b' N', φ i = some (some (b', N')) → b ∉ N'.D)
    (hF'y : ∀ i b N, i ≠ id → φ i = some (some (b, N)) → ¬ F' b) (hF'D : ∀ i b N, φ i = some (some (b, N)) → ∀ c ∈ N.D, ¬ F' c)
    (hB : Spot C (φ.set id (some y)) F' w' B' y) : Sim C (st.blk id (some B')) a w' (φ.set id (some y)) F' := by
  have hkF : KeptF F w w' := fun b hb => hkeep b (h.Fd b hb) fun N e => (hy b N e).1 (hF b hb)
  have hkc : ∀ i b N, φ i = some (some (b, N)) → ∀ c ∈ N.D, w'.heap[c]? = w.heap[c]? := fun i b N hi c hc => hkeep c (h.Dok i b N hi c hc).1 fun N' e => (hyD c N' e).2 i b N hi hc
  -- values keep
  have hval : ∀ x : AV, (φ id = some y ∨ id ∉ x.ids) → ∀ v, VR φ F w x v → VR (φ.set id (some y)) F' w' x v := fun x hx v hv => by
    refine VR.congr (φ := φ) x (fun i hi z hz => ?_) (VR.keep (Phi.Le.refl φ) hF hkF x hv)
    by_cases hii : i = id
    · subst hii
      rcases hx with hx | hx
      · rw [hx]; simpa [Phi.set] using hz
      · exact absurd hi hx
    · simpa [Phi.set, hii] using hz
  exact {
    nt := h.nt
    df := h.df
    os := hos.trans h.os
    tape := htape.trans h.tape
    output := hout.trans h.output
    size := Nat.le_trans h.size hsize
    old := fun b hb hG => (hkeep b (Nat.lt_of_lt_of_le hb h.size) fun N e => by
      obtain ⟨_, h2, _⟩ := hy b N e
      rcases h2 with h2 | h2
      · exact hG h2
      · omega).trans (h.old b hb hG)
    Fd := fun b hb => (hF' b hb).1
    Fo := fun b hb => by
      rcases (hF' b hb).2 with h1 | h1
      · exact h.Fo b h1
      · exact .inr (.inr (Nat.le_trans h.size h1))
    Fi := fun b hb => hF b (h.Fi b hb)
    env := fun t x hx => hval x (hnew.imp (fun k => k) fun k => k.1.env t x hx) _ (h.env t x hx)
    own := fun i B hB0 => by
      by_cases hi : i = id
      · subst hi
        simp [St.blk] at hB0
        subst hB0
        exact ⟨y, Phi.set_eq, hB⟩
      · simp only [St.blk, if_neg hi] at hB0
        obtain ⟨x, hx, hs⟩ := h.own i B hB0
        refine ⟨x, by rw [Phi.set_ne hi]; exact hx, ?_⟩
        cases x with
        | none => exact hs
        | some x =>
          obtain ⟨b, N⟩ := x
          refine ⟨?_, hF'y i b N hi hx, hs.2.2⟩
          have hne : ∀ N', y ≠ some (b, N') := fun N' e => hi ((hy b N' e).2.2 i N hx)
          refine BR.congr (φ := φ) (fun j hj z hz => ?_) (hs.1.keep (Phi.Le.refl φ) hF hkF (hkeep b hs.1.lt hne) (hkc i b N hx))
          by_cases hjj : j = id
          · subst hjj
            rcases hnew with hn | hn
            · rw [hn]; simpa [Phi.set] using hz
            · exact absurd hj (hn.1.own i B hB0)
          · simpa [Phi.set, hjj] using hz
    dom := fun i x hx => by
      by_cases hi : i = id
      · subst hi; simp [St.blk]
      · simp only [St.blk, if_neg hi]
        exact h.dom i x (by simpa [Phi.set, hi] using hx)
    inj := fun i i' b N N' h1 h2 => by
      by_cases hi : i = id <;> by_cases hi' : i' = id
      · rw [hi, hi']
      · subst hi
        rw [Phi.set_eq] at h1
        rw [Phi.set_ne hi'] at h2
        exact ((hy b N (by simpa using h1)).2.2 i' N' h2).symm
      · subst hi'
        rw [Phi.set_eq] at h2
        rw [Phi.set_ne hi] at h1
        exact (hy b N' (by simpa using h2)).2.2 i N h1
      · rw [Phi.set_ne hi] at h1
        rw [Phi.set_ne hi'] at h2
        exact h.inj i i' b N N' h1 h2
    sep := fun i i' b b' N N' c h1 h2 hc hc' => by
      by_cases hi : i = id
      · subst hi
        rw [Phi.set_eq] at h1
        rw [(hyD b N (by simpa using h1)).1] at hc; cases hc
      · rw [Phi.set_ne hi] at h1
        by_cases hi' : i' = id
        · subst hi'
          rw [Phi.set_eq] at h2
          have hy2 := hyD b' N' (by simpa using h2)
          rcases hc' with rfl | hc'
          · exact absurd hc (hy2.2 i b N h1)
          · rw [hy2.1] at hc'; cases hc'
        · rw [Phi.set_ne hi'] at h2
          exact h.sep i i' b b' N N' c h1 h2 hc hc'
    Dok := fun i b N h1 c hc => by
      by_cases hi : i = id
      · subst hi
        rw [Phi.set_eq] at h1
        rw [(hyD b N (by simpa using h1)).1] at hc; cases hc
      · rw [Phi.set_ne hi] at h1
        have := h.Dok i b N h1 c hc
        exact ⟨by omega, hF'D i b N h1 c hc, this.2.2⟩
    pin := fun i x hp hne => by
      by_cases hi : i = id
      · subst hi
        rw [Phi.set_eq]
        rcases hnew with hn | hn
        · obtain ⟨y', hy', hl⟩ := h.pin i x hp (h.dom i _ hn)
          rw [hn] at hy'; injection hy' with hy'; subst hy'
          exact ⟨y, rfl, hl⟩
        · rw [hn.2] at hp; cases hp
      · rw [Phi.set_ne hi]
        exact h.pin i x hp (by simpa [St.blk, hi] using hne) }
/-- The world goes on and nothing that is spoken of turns; new blocks may be read from now on. -/
theorem Sim.grow (h : Sim C st a w φ F) {F' : Nat → Prop}
    (hos : w'.os = w.os) (htape : w'.tape = w.tape) (hout : w'.output = w.output) (hsize : w.heap.size ≤ w'.heap.size)
    (hF : ∀ b, F b → F' b) (hF' : ∀ b, F' b → b < w'.heap.size ∧ (F b ∨ w.heap.size ≤ b))
    (hkeep : ∀ b, b < w.heap.size → w'.heap[b]? = w.heap[b]?) : Sim C st a w' φ F' := by
  have hkF : KeptF F w w' := fun b hb => hkeep b (h.Fd b hb)
  have hkc : ∀ i b N, φ i = some (some (b, N)) → ∀ c ∈ N.D, w'.heap[c]? = w.heap[c]? := fun i b N hi c hc => hkeep c (h.Dok i b N hi c hc).1
  exact {
    nt := h.nt
    df := h.df
    os := hos.trans h.os
    tape := htape.trans h.tape
    output := hout.trans h.output
    size := Nat.le_trans h.size hsize
    old := fun b hb hG => (hkeep b (Nat.lt_of_lt_of_le hb h.size)).trans (h.old b hb hG)
    Fd := fun b hb => (hF' b hb).1
    Fo := fun b hb => by
      rcases (hF' b hb).2 with h1 | h1
      · exact h.Fo b h1
      · exact .inr (.inr (Nat.le_trans h.size h1))
    Fi := fun b hb => hF b (h.Fi b hb)
    env := fun t x hx => VR.keep (Phi.Le.refl φ) hF hkF _ (h.env t x hx)
    own := fun i B hB0 => by
      obtain ⟨x, hx, hs⟩ := h.own i B hB0
      refine ⟨x, hx, ?_⟩
      cases x with
      | none => exact hs
      | some x =>
        obtain ⟨b, N⟩ := x
        refine ⟨hs.1.keep (Phi.Le.refl φ) hF hkF (hkeep b hs.1.lt) (hkc i b N hx), fun hb => ?_, hs.2.2⟩
        rcases (hF' b hb).2 with h1 | h1
        · exact hs.2.1 h1
        · have := hs.1.lt; omega
    dom := h.dom
    inj := h.inj
    sep := h.sep
    Dok := fun i b N hi c hc => by
      have := h.Dok i b N hi c hc
      refine ⟨by omega, fun hb => ?_, this.2.2⟩
      rcases (hF' c hb).2 with h1 | h1
      · exact this.2.1 h1
      · omega
    pin := h.pin }
/-- A new block of the call's own. -/
theorem Sim.alloc (h : Sim C st a w φ F) {id : Nat} {B' : ABlk} (hf : Fresh st id) (hp : C.pin id = none) {cur : Array Value} {ty : TypeId}
    (hB : BR (φ.set id (some (some (w.heap.size, ⟨cur.size, []⟩)))) F (w.alloc (.cells cur ty)) w.heap.size ⟨cur.size, []⟩ B') :
    Sim C (st.blk id (some B')) a (w.alloc (.cells cur ty)) (φ.set id (some (some (w.heap.size, ⟨cur.size, []⟩)))) F := by
  refine h.turn (y := some (w.heap.size, ⟨cur.size, []⟩)) (F' := F) (.inr ⟨hf, hp⟩) rfl rfl rfl (by simp) (fun _ k => k) (fun b hb => ⟨by have := h.Fd b hb; simp; omega, .inl hb⟩) (fun b (hb : b < w.heap.size) _ => Below.heap_alloc w _ b hb) ?_ (fun b N e => by injection e with e; injection e with e1 e2; subst e1; subst e2; exact ⟨rfl, fun i b' N' hi hc => by have := (h.Dok i b' N' hi _ hc).1; omega⟩) ?_ (fun i b N hi c hc => (h.Dok i b N hi c hc).2.1) ⟨hB, ?_, .inr h.size⟩
  · rintro b N e
    injection e with e; injection e with e1 e2; subst e1
    refine ⟨fun hb => by have := h.Fd _ hb; omega, .inr h.size, fun i N' hi => ?_⟩
    cases hB0 : st.H i with
    | none => exact absurd hB0 (h.dom i _ hi)
    | some B =>
      obtain ⟨x, hx, hs⟩ := h.own i B hB0
      rw [hi] at hx
      injection hx with hx; subst hx
      have := hs.1.lt
      omega
  · intro i b N hi hφ hb
    cases hB0 : st.H i with
    | none => exact absurd hB0 (h.dom i _ hφ)
    | some B =>
      obtain ⟨x, hx, hs⟩ := h.own i B hB0
      rw [hφ] at hx
      injection hx with hx; subst hx
      exact hs.2.1 hb
  · intro hb
    have := h.Fd _ hb
    omega
/-- A block of the call's own is written. -/
theorem Sim.write (h : Sim C st a w φ F) {id b : Nat} {N : Sz} {B' : ABlk} (hφ : φ id = some (some (b, N)))
    (hos : w'.os = w.os) (htape : w'.tape = w.tape) (hout : w'.output = w.output) (hsize : w'.heap.size = w.heap.size) (hkeep : ∀ k, k ≠ b → w'.heap[k]? = w.heap[k]?)
    (hND : N.D = []) (hB : BR φ F w' b N B') : Sim C (st.blk id (some B')) a w' φ F := by
  have hset : φ.set id (some (some (b, N))) = φ := by funext i; by_cases hi : i = id <;> simp [Phi.set, hi, hφ]
  have key : ∀ i b' N', φ i = some (some (b', N')) → ¬ F b' ∧ (C.G b' ∨ C.w0.heap.size ≤ b') := fun i b' N' hi => by
    cases hB0 : st.H i with
    | none => exact absurd hB0 (h.dom i _ hi)
    | some B =>
      obtain ⟨x, hx, hs⟩ := h.own i B hB0
      rw [hi] at hx
      injection hx with hx; subst hx
      exact hs.2
  have := h.turn (w' := w') (B' := B') (y := some (b, N)) (F' := F) (.inl hφ) hos htape hout (by omega) (fun _ k => k) (fun c hc => ⟨by have := h.Fd c hc; omega, .inl hc⟩)
    (fun c _ hne => hkeep c fun e => hne N (by rw [e])) (fun b' N' e => by
      injection e with e; injection e with e1 e2; subst e1; subst e2
      exact ⟨(key id _ _ hφ).1, (key id _ _ hφ).2, fun i N' hi => h.inj i id _ _ _ hi hφ⟩)
    (fun b' N' e => by
      injection e with e; injection e with e1 e2; subst e1; subst e2
      exact ⟨hND, fun i b' N' hi hc => (h.sep i id b' b N' N b hi hφ hc (.inl rfl)).2 rfl⟩)
    (fun i b' N' _ hi => (key i b' N' hi).1) (fun i b N hi c hc => (h.Dok i b N hi c hc).2.1) (by rw [hset]; exact ⟨hB, key id _ _ hφ⟩)
  rwa [hset] at this
end
end Go.AM
end
section
namespace Go.AM
open Go Go.RowKit
abbrev AHeap := List (Nat × ABlk)
def AHeap.get : AHeap → Nat → Option ABlk
  | [], _ => none
  | (i, B) :: r, id => if Nat.beq i id then some B else AHeap.get r id
/-- n fits the kind k: the bounds written out. -/
def InR : IntKind → Int → Prop
  | .i8, n => -128 ≤ n ∧ n ≤ 127
  | .i16, n => -32768 ≤ n ∧ n ≤ 32767
  | .i32, n => -2147483648 ≤ n ∧ n ≤ 2147483647
  | .i64, n => -9223372036854775808 ≤ n ∧ n ≤ 9223372036854775807
  | .u8, n => 0 ≤ n ∧ n ≤ 255
  | .u16, n => 0 ≤ n ∧ n ≤ 65535
  | .u32, n => 0 ≤ n ∧ n ≤ 4294967295
  | .u64, n => 0 ≤ n ∧ n ≤ 18446744073709551615
theorem InR.iff {k : IntKind} {n : Int} : (Lit.int k n).wf = true ↔ InR k n := by
  cases k <;> simp [InR, Lit.wf, IntKind.min, IntKind.max, IntKind.signed, IntKind.bits]
theorem InR.wrap {k : IntKind} {n : Int} (h : InR k n) : k.wrap n = n := by
  cases k <;> simp only [InR] at h <;> simp only [IntKind.wrap, IntKind.signed, IntKind.bits] <;> simp <;> omega
/-- What is told of an operation from outside: its value, the number of the block that it makes, the blocks that a call takes and leaves, whether a literal slice is to be owned. -/
structure Orc where
  r : Option AV := none
  id : Option Nat := none
  fp : List Nat := []
  post : AHeap := []
  own : Bool := false
structure Out where
  val : Option AV
  upd : List (Nat × Option ABlk) := []
  cond : Prop := True
  new : List Nat := []
abbrev outV (x : AV) (c : Prop) : Option Out := some { val := some x, cond := c }
def ofValue : Value → Option AV
  | .bool b => some (.p (.bool b))
  | .int k n => if (Lit.int k n).wf then some (.p (.int k n)) else none
  | .string s => if s.size ≤ maxLen then some (.p (.str s)) else none
  | .slice none 0 0 => some .nils
  | .map none => some .nilm
  | _ => none
def AV.pure? : AV → Option PV
  | .p v => some v
  | .nils => some (.sl [] 0)
  | _ => none
/-- The cells of a value. -/
def AV.cells? : AV → Option (List AV)
  | .agg cs => some cs
  | .tup _ => none
  | v => some [v]
def pures : List AV → Option (List PV)
  | [] => some []
  | a :: as => match a.pure?, pures as with
    | some p, some ps => some (p :: ps)
    | _, _ => none
/-- Is it a struct or an array? -/
def aggT (P : Program) (t : TypeId) : Option Bool :=
  match P.underlying t with
  | some (.struct _) | some (.array _ _) => some true
  | some _ => some false
  | none => none
/-- A field's offset and type, if it has cells. -/
def fieldOf (P : Program) (s f : Nat) : Option (Nat × Nat) :=
  match P.underlying s with
  | some (.struct fs) => match fs[f]? with
    | some x => match P.info? x.type with
      | some i => if i.size = 0 then none else some (x.offset, x.type)
      | none => none
    | none => none
  | _ => none
def sliceOf (P : Program) (t : Nat) : Option (Nat × TypeInfo) :=
  match P.underlying t with
  | some (.slice e) => match P.info? e with
    | some i => some (e, i)
    | none => none
  | _ => none
def arrayOf (P : Program) (t : Nat) : Option (Nat × Nat × Nat) :=
  match P.underlying t with
  | some (.array n e) => match P.info? e with
    | some i => some (n, e, i.size)
    | none => none
  | _ => none
def zeroCells (P : Program) (t : Nat) : Option (List AV) :=
  match P.info? t with
  | some i => match i.zero with
    | some z => z.cells.toList.mapM ofValue
    | none => none
  | none => none
/-- The cells of a row from 'off' on are these. -/
def rowHas (cs : List PV) : Nat → List AV → Prop
  | _, [] => True
  | off, .p v :: r => cs[off]? = some v ∧ rowHas cs (off + 1) r
  | _, _ => False
def setL {α : Type} : List α → Nat → List α → List α
  | cs, _, [] => cs
  | cs, off, v :: r => setL (cs.set off v) (off + 1) r
def semIntOp (op : BinOp) (k : IntKind) (a b : Int) : Option Out :=
  match op with
  | .add => outV (.p (.int k (a + b))) (InR k (a + b))
  | .sub => outV (.p (.int k (a - b))) (InR k (a - b))
  | .mul => outV (.p (.int k (a * b))) (InR k (a * b))
  | .quo => outV (.p (.int k (a.tdiv b))) (b ≠ 0 ∧ InR k (a.tdiv b))
  | .rem => outV (.p (.int k (a.tmod b))) (b ≠ 0)
  | .eql => outV (.p (.bool (a == b))) True
  | .neq => outV (.p (.bool (a != b))) True
  | .lss => outV (.p (.bool (a < b))) True
  | .leq => outV (.p (.bool (a ≤ b))) True
  | .gtr => outV (.p (.bool (a > b))) True
  | .geq => outV (.p (.bool (a ≥ b))) True
  | _ => none
/-- '==' on structs whose fields are integers, booleans, strings of one cell each. -/
def eqCells (P : Program) : List Field → List AV → List AV → Nat → Option Bool
  | [], _, _, _ => some true
  | f :: fs, xs, ys, j =>
    if f.name = "_" ∨ f.offset ≠ j then none else
    match xs, ys, P.underlying f.type with
    | .p (.int k a) :: xs, .p (.int k' b) :: ys, some (.int _) => if k = k' then (eqCells P fs xs ys (j + 1)).map fun r => (a == b) && r else none
    | .p (.bool a) :: xs, .p (.bool b) :: ys, some .bool => (eqCells P fs xs ys (j + 1)).map fun r => (a == b) && r
    | .p (.str a) :: xs, .p (.str b) :: ys, some .string => (eqCells P fs xs ys (j + 1)).map fun r => (a.toList == b.toList) && r
    | _, _, _ => none
def semBin (P : Program) (op : BinOp) (t : Nat) : List AV → Option Out
  | [.p (.int k a), .p (.int k' b)] => if k = k' then semIntOp op k a b else none
  | [.p (.bool a), .p (.bool b)] =>
    match op, P.underlying t with
    | .eql, some .bool => outV (.p (.bool (a == b))) True
    | .neq, some .bool => outV (.p (.bool (!(a == b)))) True
    | _, _ => none
  | [.p (.str a), .p (.str b)] =>
    match op with
    | .eql => outV (.p (.bool (a.toList == b.toList))) True
    | .neq => outV (.p (.bool (!(a.toList == b.toList)))) True
    | .add => outV (.p (.str (a ++ b))) (((a.size + b.size : Nat) : Int) ≤ 9223372036854775807)
    | .lss => outV (.p (.bool (Op.bytesLess a.toList b.toList))) True
    | .gtr => outV (.p (.bool (!(Op.bytesLess a.toList b.toList || a.toList == b.toList)))) True
    | _ => none
  | [.p (.sl cs _), .nils] =>
    match op, P.underlying t with
    | .eql, some (.slice _) => outV (.p (.bool false)) (cs ≠ [])
    | .neq, some (.slice _) => outV (.p (.bool true)) (cs ≠ [])
    | _, _ => none
  | [.agg xs, .agg ys] =>
    match P.underlying t with
    | some (.struct fs) =>
      if P.stoodInHeld t ∨ P.eqGuardType P.depth t then none else
      match eqCells P fs.toList xs ys 0, op with
      | some b, .eql => outV (.p (.bool b)) True
      | some b, .neq => outV (.p (.bool (!b))) True
      | _, _ => none
    | _ => none
  | _ => none
def semLoadRow (P : Program) (t : Nat) (r : Option AV) (cs : List PV) (off : Nat) : Option Out :=
  match r, aggT P t with
  | some (.agg l), some true => if l.length = P.cellsOf t ∧ 0 < l.length then outV (.agg l) (rowHas cs off l) else none
  | some (.p v), some false => outV (.p v) (cs[off]? = some v)
  | _, _ => none
def semLoad (P : Program) (t : Nat) (r : Option AV) (h : AHeap) : List AV → Option Out
  | [.ptr id off] =>
    match h.get id with
    | some (.lit _ cs) =>
      match aggT P t with
      | some true => if off + P.cellsOf t ≤ cs.length ∧ 0 < P.cellsOf t then outV (.agg ((cs.drop off).take (P.cellsOf t))) True else none
      | some false => match cs[off]? with
        | some x => outV x True
        | none => none
      | none => none
    | some (.row _ cs) => semLoadRow P t r cs off
    | _ => none
  | [.rp cs off] => semLoadRow P t r cs off
  | _ => none
def semStore (P : Program) (t : Nat) (h : AHeap) : List AV → Option Out
  | [.ptr id off, v] =>
    match h.get id, v.cells? with
    | some (.lit ty cs), some l => if l.length = P.cellsOf t ∧ off + l.length ≤ cs.length then some ⟨none, [(id, some (.lit ty (setL cs off l)))], True, []⟩ else none
    | some (.row ty cs), some l => if l.length = P.cellsOf t then match pures l with
        | some ps => some ⟨none, [(id, some (.row ty (setL cs off ps)))], off + ps.length ≤ cs.length, []⟩
        | none => none
      else none
    | _, _ => none
  | _ => none
/-- The places of the parts of a struct or array, filled in. -/
def fillCells (place : Nat → Option (Nat × Nat)) (cells : List AV) : List Nat → List AV → Option (List AV)
  | [], [] => some cells
  | i :: is, v :: vs => match place i, v.cells? with
    | some (off, size), some l => if l.length = size ∧ off + size ≤ cells.length then fillCells place (setL cells off l) is vs else none
    | _, _ => none
  | _, _ => none
def placesOf (P : Program) (fs : Array Field) : Option (List (Nat × Nat)) := fs.toList.mapM fun f => (P.info? f.type).map fun i => (f.offset, i.size)
def semBuild (P : Program) (t : Nat) (is : List Nat) (args : List AV) : Option Out :=
  match zeroCells P t, P.underlying t with
  | some z, some (.struct fs) =>
    match placesOf P fs with
    | some ps => match fillCells (ps.toArray[·]?) z is args with
      | some cs => outV (.agg cs) True
      | none => none
    | none => none
  | some z, some (.array _ e) =>
    match P.info? e with
    | some k => match fillCells (fun i => some (i * k.size, k.size)) z is args with
      | some cs => outV (.agg cs) True
      | none => none
    | none => none
  | _, _ => none
def newId (dst id : Option Nat) : Option Nat := match id with | some i => some i | none => dst
def semBuildSlice (P : Program) (t n : Nat) (is : List Nat) (dst : Option Nat) (orc : Orc) (args : List AV) : Option Out :=
  match sliceOf P t with
  | some (e, k) =>
    match zeroCells P e with
    | some z =>
      if n * k.size ≤ 16777216 ∧ z.length = k.size ∧ 0 < k.size then
        match fillCells (fun i => some (i * k.size, k.size)) (List.replicate n z).flatten is args with
        | some cs =>
          match orc.own, pures cs, newId dst orc.id with
          | false, some ps, _ => outV (.p (.sl ps n)) True
          | true, some ps, some id => some ⟨some (.own id 0 n k.size), [(id, some (.row e ps))], True, [id]⟩
          | true, none, some id => some ⟨some (.own id 0 n k.size), [(id, some (.lit e cs))], True, [id]⟩
          | _, _, _ => none
        | none => none
      else none
    | none => none
  | none => none
def semLen (P : Program) (t : Nat) (h : AHeap) : List AV → Option Out
  | [.p (.sl _ n)] => match P.underlying t with | some (.slice _) => outV (.p (.int .i64 n)) True | _ => none
  | [.own id _ n _] => match P.underlying t, h.get id with | some (.slice _), some _ => outV (.p (.int .i64 n)) True | _, _ => none
  | [.nils] => match P.underlying t with | some (.slice _) => outV (.p (.int .i64 0)) True | _ => none
  | [.p (.str s)] => match P.underlying t with | some .string => outV (.p (.int .i64 s.size)) True | _ => none
  | _ => none
/-- What is appended, and how many elements. -/
def srcOf (h : AHeap) : AV → Option (List PV × Nat)
  | .p (.sl ys m) => some (ys, m)
  | .nils => some ([], 0)
  | .own id 0 m _ => match h.get id with | some (.row _ ys) => some (ys, m) | _ => none
  | _ => none
def semAppend (P : Program) (ts : Array Nat) (dst : Option Nat) (orc : Orc) (h : AHeap) : List AV → Option Out
  | [s, x] =>
    if ts.size = 2 ∧ ts[0]? = ts[1]? then
    match (ts[0]?).bind (sliceOf P), srcOf h x, newId dst orc.id with
    | some (e, k), some (ys, m), some N =>
      match k.zero with
      | none => none
      | some z =>
      if k.size = 0 ∨ z.cells.size ≠ k.size then none else
      match s with
      | .nils => some ⟨some (.own N 0 m k.size), [(N, some (.row e ys))], ys.length = m * k.size ∧ m * k.bytes ≤ 140737488355328 ∧ m ≤ 9223372036854775807, [N]⟩
      | .own id 0 n sz =>
        match h.get id with
        | some (.row e' cs) => if e = e' ∧ sz = k.size ∧ id ≠ N ∧ (∀ i ∈ x.ids, i ≠ id) then
            some ⟨some (.own N 0 (n + m) sz), [(id, none), (N, some (.row e (cs ++ ys)))], cs.length = n * sz ∧ ys.length = m * sz ∧ (n + m) * k.bytes ≤ 140737488355328 ∧ n + m ≤ 9223372036854775807, [N]⟩ else none
        | _ => none
      | _ => none
    | _, _, _ => none
    else none
  | _ => none
def semIndexAddr (P : Program) (t : Nat) : List AV → Option Out
  | [.p (.sl cs n), .p (.int _ i)] => match sliceOf P t with
    | some (_, k) => outV (.rp cs (i.toNat * k.size)) (0 ≤ i ∧ i < n)
    | none => none
  | [.own id off n sz, .p (.int _ i)] => match sliceOf P t with
    | some (_, k) => if k.size = sz then outV (.ptr id (off + i.toNat * sz)) (0 ≤ i ∧ i < n) else none
    | none => none
  | [.ptr id off, .p (.int _ i)] => match arrayOf P t with
    | some (n, _, sz) => outV (.ptr id (off + i.toNat * sz)) (0 ≤ i ∧ i < n)
    | none => none
  | _ => none
def semFieldAddr (P : Program) (s f : Nat) : List AV → Option Out
  | [.ptr id off] => match fieldOf P s f with
    | some (o, _) => outV (.ptr id (off + o)) True
    | none => none
  | [.rp cs off] => match fieldOf P s f with
    | some (o, _) => outV (.rp cs (off + o)) True
    | none => none
  | _ => none
def semField (P : Program) (s f : Nat) : List AV → Option Out
  | [.agg cs] => match fieldOf P s f with
    | some (o, t) => match aggT P t with
      | some true => if o + P.cellsOf t ≤ cs.length then outV (.agg ((cs.drop o).take (P.cellsOf t))) True else none
      | some false => match cs[o]? with
        | some x => outV x True
        | none => none
      | none => none
    | none => none
  | _ => none
def semConvert (P : Program) (src dst : Nat) : List AV → Option Out
  | [.p (.int _ n)] => match P.underlying src, P.underlying dst with
    | some _, some (.int k) => outV (.p (.int k n)) (InR k n)
    | _, _ => none
  | [.p (.str s)] => match P.underlying src, P.underlying dst with
    | some .string, some .string => outV (.p (.str s)) True
    | _, _ => none
  | _ => none
def semUn (op : UnOp) : List AV → Option Out
  | [.p (.bool b)] => match op with | .not => outV (.p (.bool !b)) True | _ => none
  | [.p (.int k n)] => match op with | .neg => outV (.p (.int k (0 - n))) (InR k (0 - n)) | _ => none
  | _ => none
def intArg : Option AV → Option (Option Int)
  | none => some none
  | some (.p (.int _ n)) => some (some n)
  | _ => none
/-- x[lo:hi] of a slice; 'hasLo', 'hasHi': which bounds stand there. -/
def semSlice (P : Program) (t : Nat) (hasLo hasHi hasMax : Bool) : List AV → Option Out
  | .p (.sl cs n) :: bs => match sliceOf P t, hasLo, hasHi, hasMax, bs with
    | some (_, k), false, true, false, [.p (.int _ hi)] => outV (.p (.sl (cs.take (hi.toNat * k.size)) hi.toNat)) (0 ≤ hi ∧ hi ≤ n)
    | some (_, k), true, false, false, [.p (.int _ lo)] => outV (.p (.sl (cs.drop (lo.toNat * k.size)) (n - lo.toNat))) (0 ≤ lo ∧ lo ≤ n ∧ cs.length = n * k.size)
    | some (_, k), true, true, false, [.p (.int _ lo), .p (.int _ hi)] => outV (.p (.sl ((cs.take (hi.toNat * k.size)).drop (lo.toNat * k.size)) (hi.toNat - lo.toNat))) (0 ≤ lo ∧ lo ≤ hi ∧ hi ≤ n)
    | _, _, _, _, _ => none
  | .own id off n sz :: bs => match sliceOf P t, hasLo, hasHi, hasMax, bs with
    | some (_, k), false, true, false, [.p (.int _ hi)] => if k.size = sz then outV (.own id off hi.toNat sz) (0 ≤ hi ∧ hi ≤ n) else none
    | _, _, _, _, _ => none
  | .p (.str s) :: bs => match P.underlying t, hasLo, hasHi, hasMax, bs with
    | some .string, false, true, false, [.p (.int _ hi)] => outV (.p (.str (s.extract 0 hi.toNat))) (0 ≤ hi ∧ hi ≤ s.size)
    | some .string, true, false, false, [.p (.int _ lo)] => outV (.p (.str (s.extract lo.toNat s.size))) (0 ≤ lo ∧ lo ≤ s.size)
    | some .string, true, true, false, [.p (.int _ lo), .p (.int _ hi)] => outV (.p (.str (s.extract lo.toNat hi.toNat))) (0 ≤ lo ∧ lo ≤ hi ∧ hi ≤ s.size)
    | _, _, _, _, _ => none
  | _ => none
def semMakeSlice (P : Program) (t : Nat) (dst : Option Nat) (orc : Orc) : List AV → Option Out
  | [.p (.int .i64 l), .p (.int .i64 c)] => match sliceOf P t, newId dst orc.id with
    | some (e, k), some N => match zeroCells P e with
      | some z => match pures z with
        | some zs => if zs.length = k.size ∧ 0 < k.size then
            some ⟨some (.own N 0 l.toNat k.size), [(N, some (.row e (List.replicate l.toNat zs).flatten))], 0 ≤ l ∧ l ≤ c ∧ (k.bytes : Int) * c ≤ 281474976710656 ∧ c ≤ 9223372036854775807, [N]⟩ else none
        | none => none
      | none => none
    | _, _ => none
  | _ => none
def semMax2 (less : Bool) : List AV → Option Out
  | [.p (.int k a), .p (.int k' b)] => if k = k' then outV (.p (.int k (if less then min a b else max a b))) True else none
  | _ => none
end Go.AM
end
section
namespace Go.AM
open Go Go.RowKit
section
variable {P : Program} {C : Ctx} {st : St} {a : Act} {w : World} {φ : Phi} {F : Nat → Prop}
theorem VR.ofValue {v : Value} {x : AV} (h : ofValue v = some x) : VR φ F w x v := by
  unfold AM.ofValue at h
  split at h
  · injection h with h; subst h; exact .bool _
  · split at h
    · injection h with h; subst h; exact .int ‹_›
    · cases h
  · split at h
    · injection h with h; subst h; exact .str ‹_›
    · cases h
  · injection h with h; subst h; rfl
  · injection h with h; subst h; rfl
  · cases h
theorem VR.int_of {k : IntKind} {n : Int} {v : Value} (h : VR φ F w (.p (.int k n)) v) : v = .int k n ∧ InR k n := by
  cases h with
  | int h => exact ⟨rfl, InR.iff.1 h⟩
theorem VR.bool_of {b : Bool} {v : Value} (h : VR φ F w (.p (.bool b)) v) : v = .bool b := by
  cases h with
  | bool => rfl
theorem VR.str_of {s : ByteArray} {v : Value} (h : VR φ F w (.p (.str s)) v) : v = .string s ∧ s.size ≤ maxLen := by
  cases h with
  | str h => exact ⟨rfl, h⟩
theorem VR.mkInt {k : IntKind} {n : Int} (h : InR k n) : VR φ F w (.p (.int k n)) (.int k n) := .int (InR.iff.2 h)
theorem VR.mkBool (b : Bool) : VR φ F w (.p (.bool b)) (.bool b) := .bool b
theorem InR.tmod {k : IntKind} {a b : Int} (h : InR k a) : InR k (a.tmod b) := by
  have h1 : (a.tmod b).natAbs ≤ a.natAbs := by rw [Int.natAbs_tmod]; exact Nat.mod_le _ _
  have h2 : 0 ≤ a → 0 ≤ a.tmod b := fun h => Int.tmod_nonneg b h
  have h3 : a ≤ 0 → a.tmod b ≤ 0 := fun h => by
    have h4 := Int.tmod_nonneg b (show 0 ≤ -a by omega)
    rw [Int.neg_tmod] at h4
    omega
  cases k <;> simp only [InR] at h ⊢ <;> by_cases h0 : 0 ≤ a <;> (first | have := h2 h0 | have := h3 (by omega)) <;> omega
/-- One value, the world as it was. -/
def Yields (P : Program) (φ : Phi) (F : Nat → Prop) (w : World) (out : Out) (s : Sem Value) : Prop :=
  out.upd = [] ∧ ∃ v, s.run P w = .ok v w ∧ ∃ x, out.val = some x ∧ VR φ F w x v
theorem Yields.mk {out : Out} {s : Sem Value} {x : AV} {v : Value} {c : Prop} (hs : outV x c = some out) (hr : s.run P w = .ok v w) (hv : VR φ F w x v) : Yields P φ F w out s := by
  injection hs with hs; subst hs
  exact ⟨rfl, v, hr, x, rfl, hv⟩
theorem semIntOp_sound {op : BinOp} {k : IntKind} {m n : Int} {out : Out} (hm : InR k m) (hs : semIntOp op k m n = some out) (hc : out.cond) (t : Nat) (x y : Operand) :
    Yields P φ F w out (do eqGuard op t x y (.int k m) (.int k n); binOp op t (.int k m) (.int k n)) := by
  rw [eqGuard_at_int]
  unfold semIntOp at hs
  split at hs
  · injection hs with hs; subst hs
    exact ⟨rfl, _, by simp [binOp_add, Op.intArith, InR.wrap hc], _, rfl, .mkInt hc⟩
  · injection hs with hs; subst hs
    exact ⟨rfl, _, by simp [binOp_sub, Op.intArith, InR.wrap hc], _, rfl, .mkInt hc⟩
  · injection hs with hs; subst hs
    exact ⟨rfl, _, by simp [binOp_mul, Op.intArith, InR.wrap hc], _, rfl, .mkInt hc⟩
  · injection hs with hs; subst hs
    exact ⟨rfl, _, by simp [binOp_quo, Op.intDiv, hc.1, InR.wrap hc.2], _, rfl, .mkInt hc.2⟩
  · injection hs with hs; subst hs
    refine ⟨rfl, _, ?_, _, rfl, .mkInt hm.tmod⟩
    have : n ≠ 0 := hc
    simp [binOp_rem, Op.intDiv, this]
  all_goals first
    | (injection hs with hs; subst hs; exact ⟨rfl, _, by simp [binOp_eql, binOp_neq, binOp_lss, binOp_leq, binOp_gtr, binOp_geq], _, rfl, .mkBool _⟩)
    | cases hs
theorem eqCells_sound (d : Nat) (X Y : Array Value) : ∀ (fs : List Field) (xs ys : List AV) (j : Nat) (us vs : List Value) (b : Bool), eqCells P fs xs ys j = some b → VRs φ F w xs us → VRs φ F w ys vs →
    (∀ i : Nat, X[j + i]? = us[i]?) → (∀ i : Nat, Y[j + i]? = vs[i]?) → (Op.eqFields (d + 1) X Y fs).run P w = .ok b w
  | [], xs, ys, j, us, vs, b, h, _, _, _, _ => by
    simp only [eqCells] at h; injection h with h; subst h; rfl
  | f :: fs, xs, ys, j, us, vs, b, h, hx, hy, hX, hY => by
    unfold eqCells at h
    split at h
    · cases h
    rename_i hcond
    have hn : f.name ≠ "_" := fun e => hcond (.inl e)
    have ho : f.offset = j := Classical.byContradiction fun e => hcond (.inr e)
    simp only [Op.eqFields, if_pos hn, ho]
    split at h
    · rename_i _ _ _ k m xs' k' n ys' k'' hu
      split at h
      case isFalse => cases h
      rename_i hk
      rw [VRs] at hx hy
      obtain ⟨u, us', rfl, h1, h2⟩ := hx
      obtain ⟨v, vs', rfl, h3, h4⟩ := hy
      obtain ⟨rfl, _⟩ := h1.int_of
      obtain ⟨rfl, _⟩ := h3.int_of
      obtain ⟨r, hr, rfl⟩ := Option.map_eq_some_iff.1 h
      have ih := eqCells_sound d X Y fs xs' ys' (j + 1) us' vs' r hr h2 h4 (fun i => by have := hX (i + 1); simpa [Nat.add_assoc, Nat.add_comm 1 i] using this) (fun i => by have := hY (i + 1); simpa [Nat.add_assoc, Nat.add_comm 1 i] using this)
      have e1 : X[j]? = some (.int k m) := by simpa using hX 0
      have e2 : Y[j]? = some (.int k' n) := by simpa using hY 0
      subst hk
      have q := run_equalIn_int (P := P) w d f.type k k'' m n hu
      simp [part, isAgg, run_underlying hu, e1, e2, q]
      cases hmn : (m == n)
      · simp_all
      · simp_all
    · rename_i _ _ _ m xs' n ys' hu
      rw [VRs] at hx hy
      obtain ⟨u, us', rfl, h1, h2⟩ := hx
      obtain ⟨v, vs', rfl, h3, h4⟩ := hy
      obtain rfl := h1.bool_of
      obtain rfl := h3.bool_of
      obtain ⟨r, hr, rfl⟩ := Option.map_eq_some_iff.1 h
      have ih := eqCells_sound d X Y fs xs' ys' (j + 1) us' vs' r hr h2 h4 (fun i => by have := hX (i + 1); simpa [Nat.add_assoc, Nat.add_comm 1 i] using this) (fun i => by have := hY (i + 1); simpa [Nat.add_assoc, Nat.add_comm 1 i] using this)
      have e1 : X[j]? = some (.bool m) := by simpa using hX 0
      have e2 : Y[j]? = some (.bool n) := by simpa using hY 0
      have q := run_equalIn_bool' (P := P) w d f.type m n hu
      simp [part, isAgg, run_underlying hu, e1, e2, q]
      cases hmn : (m == n)
      · simp_all
      · simp_all
    · rename_i _ _ _ m xs' n ys' hu
      rw [VRs] at hx hy
      obtain ⟨u, us', rfl, h1, h2⟩ := hx
      obtain ⟨v, vs', rfl, h3, h4⟩ := hy
      obtain ⟨rfl, _⟩ := h1.str_of
      obtain ⟨rfl, _⟩ := h3.str_of
      obtain ⟨r, hr, rfl⟩ := Option.map_eq_some_iff.1 h
      have ih := eqCells_sound d X Y fs xs' ys' (j + 1) us' vs' r hr h2 h4 (fun i => by have := hX (i + 1); simpa [Nat.add_assoc, Nat.add_comm 1 i] using this) (fun i => by have := hY (i + 1); simpa [Nat.add_assoc, Nat.add_comm 1 i] using this)
      have e1 : X[j]? = some (.string m) := by simpa using hX 0
      have e2 : Y[j]? = some (.string n) := by simpa using hY 0
      have q := run_equalIn_string (P := P) w d f.type m n hu
      simp [part, isAgg, run_underlying hu, e1, e2, q]
      cases hmn : (m.toList == n.toList)
      · simp_all
      · simp_all
    · cases h
theorem semBin_sound {op : BinOp} {t : Nat} {args : List AV} {u v : Value} {out : Out} (hs : semBin P op t args = some out) (hc : out.cond) (hv : VRs φ F w args [u, v]) (x y : Operand) :
    Yields P φ F w out (do eqGuard op t x y u v; binOp op t u v) := by
  match args, hv with
  | [], hv => rw [VRs] at hv; cases hv
  | [_], hv => rw [VRs] at hv; obtain ⟨_, _, e, _, h2⟩ := hv; rw [VRs] at h2; subst h2; simp at e
  | _ :: _ :: _ :: _, hv => have := hv.length; simp at this
  | [p, q], hv =>
    rw [VRs] at hv
    obtain ⟨_, _, e, h1, hv⟩ := hv
    rw [VRs] at hv
    obtain ⟨_, _, e', h2, hv⟩ := hv
    rw [VRs] at hv
    subst hv
    subst e'
    simp only [List.cons.injEq, and_true] at e
    obtain ⟨rfl, rfl⟩ := e
    unfold semBin at hs
    split at hs
    · rename_i k m k' n he
      simp only [List.cons.injEq, and_true] at he
      obtain ⟨rfl, rfl⟩ := he
      split at hs
      case isFalse => cases hs
      rename_i hk
      subst hk
      obtain ⟨rfl, hm⟩ := h1.int_of
      obtain ⟨rfl, _⟩ := h2.int_of
      exact semIntOp_sound hm hs hc t x y
    · rename_i m n he
      simp only [List.cons.injEq, and_true] at he
      obtain ⟨rfl, rfl⟩ := he
      obtain rfl := h1.bool_of
      obtain rfl := h2.bool_of
      rw [eqGuard_at_bool]
      split at hs
      · rename_i hu
        refine .mk hs ?_ (.mkBool _)
        simp [binOp, Op.equal, Op.maxDepth, run_equalIn_bool (P := P) w 9999 t m n hu]
      · rename_i hu
        refine .mk hs ?_ (.mkBool _)
        simp [binOp, Op.equal, Op.maxDepth, run_equalIn_bool (P := P) w 9999 t m n hu]
      · cases hs
    · rename_i m n he
      simp only [List.cons.injEq, and_true] at he
      obtain ⟨rfl, rfl⟩ := he
      obtain ⟨rfl, hm⟩ := h1.str_of
      obtain ⟨rfl, hn⟩ := h2.str_of
      rw [eqGuard_at_string]
      split at hs
      · exact .mk hs (by simp [binOp, Op.stringOp]) (.mkBool _)
      · exact .mk hs (by simp [binOp, Op.stringOp]) (.mkBool _)
      · injection hs with hs; subst hs
        have hc' : ((m.size + n.size : Nat) : Int) ≤ 9223372036854775807 := hc
        have h63 : ¬ (9223372036854775807 < (m.size : Int) + (n.size : Int)) := by omega
        refine ⟨rfl, .string (m ++ n), by simp [binOp, Op.stringOp, h63], _, rfl, RV.str ?_⟩
        simp only [ByteArray.size_append, maxLen]; omega
      · exact .mk hs (by simp [binOp, Op.stringOp]) (.mkBool _)
      · exact .mk hs (by simp [binOp, Op.stringOp]) (.mkBool _)
      · cases hs
    · rename_i cs n he
      simp only [List.cons.injEq, and_true] at he
      obtain ⟨rfl, rfl⟩ := he
      rw [VR] at h2; subst h2
      have hne : cs ≠ [] → ∃ ad c, u = .slice (some ad) n c := fun hcs => by
        have h1' : RV w F u (.sl cs n) := h1
        cases h1' with
        | sl vs hn hc hz ha hr =>
          obtain ⟨ad, rfl, _⟩ := ha hcs
          exact ⟨ad, _, rfl⟩
      split at hs
      · rename_i e hu
        have hcs : cs ≠ [] := by injection hs with hs; subst hs; exact hc
        obtain ⟨ad, c, rfl⟩ := hne hcs
        rw [eqGuard_at_slice]
        refine .mk hs ?_ (.mkBool _)
        exact (by simpa using Lib.run_eql_slice_nil (P := P) w t e (some ad) n c 0 0 hu)
      · rename_i e hu
        have hcs : cs ≠ [] := by injection hs with hs; subst hs; exact hc
        obtain ⟨ad, c, rfl⟩ := hne hcs
        rw [eqGuard_at_slice]
        refine .mk hs ?_ (.mkBool _)
        exact (by simpa using run_neq_slice_nil (P := P) w t e (some ad) n c hu)
      · cases hs
    · rename_i xs ys he
      simp only [List.cons.injEq, and_true] at he
      obtain ⟨rfl, rfl⟩ := he
      rw [VR] at h1 h2
      obtain ⟨us, rfl, h1, _⟩ := h1
      obtain ⟨vs, rfl, h2, _⟩ := h2
      split at hs
      · rename_i fs hu
        split at hs
        · cases hs
        rename_i hno
        have hp : P.stoodInHeld t = false := by
          cases h : P.stoodInHeld t
          · rfl
          · exact absurd (.inl h) hno
        have hg : P.eqGuardType P.depth t = false := by
          cases h : P.eqGuardType P.depth t
          · rfl
          · exact absurd (.inr h) hno
        have hf : P.fieldsOf t = fs := by simp [Program.fieldsOf, hu]
        have hu' : P.underlying t = some (.struct (P.fieldsOf t)) := by rw [hf]; exact hu
        split at hs
        · rename_i b hb
          have q := eqCells_sound 9998 us.toArray vs.toArray fs.toList xs ys 0 us vs b hb h1 h2 (fun i => by simp) (fun i => by simp)
          refine .mk hs ?_ (.mkBool _)
          simp [run_eqGuard_agg (P := P) w .eql t x y us.toArray vs.toArray hg, run_eql_struct, run_equalIn_struct (P := P) w 9999 t _ _ hu' hp, hf, q]
        · rename_i b hb
          have q := eqCells_sound 9998 us.toArray vs.toArray fs.toList xs ys 0 us vs b hb h1 h2 (fun i => by simp) (fun i => by simp)
          refine .mk hs ?_ (.mkBool _)
          simp [run_eqGuard_agg (P := P) w .neq t x y us.toArray vs.toArray hg, run_neq_struct, run_equalIn_struct (P := P) w 9999 t _ _ hu' hp, hf, q]
        · cases hs
      · cases hs
    · cases hs
end
end Go.AM
end
