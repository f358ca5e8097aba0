/- Maps whose keys are integers, or structs of integers. -/
import Derived.MapKept
import Derived.WideKeyRuns
import Derived.ChangeMaps4
import Derived.Test.YtijdlphadhpabaaA3
section
namespace Go.AM
open Go Go.RowKit Go.ChangeMaps
def intFields (P : Program) : List Field → Nat → Bool
  | [], _ => true
  | f :: fs, j => (f.name != "_") && Nat.beq f.offset j && (match P.underlying f.type, P.info? f.type with | some (.int .i64), some _ => true | _, _ => false) && intFields P fs (j + 1)
/-- Of how many fields is a key (0: no struct)? -/
def keyTy (P : Program) (t : Nat) : Option Nat :=
  match P.underlying t with
  | some (.int .i64) => some 0
  | some (.struct fs) => if intFields P fs.toList 0 && !P.stoodInHeld t && Nat.ble 1 fs.size then some fs.size else none
  | _ => none
def intsOf : List AV → Option (List Int)
  | [] => some []
  | .p (.int .i64 n) :: r => (intsOf r).map fun l => n :: l
  | _ => none
def keyAV (ag : Nat) : AV → Option (List Int)
  | .p (.int .i64 n) => if ag = 0 then some [n] else none
  | .agg cs => if ag = 0 then none else match intsOf cs with
    | some l => if l.length = ag then some l else none
    | none => none
  | _ => none
/-- The first entry with this key. -/
def tIdx {β : Type} (k : List Int) : List (List Int × β) → Option (Nat × β)
  | [] => none
  | (k', b) :: m => if k = k' then some (0, b) else (tIdx k m).map fun x => (x.1 + 1, x.2)
def tGet {β : Type} (k : List Int) (m : List (List Int × β)) : Option β := (tIdx k m).map (·.2)
/-- The entry with this key set, or a new one behind all. -/
def tSet {β : Type} (k : List Int) (b : β) : List (List Int × β) → List (List Int × β)
  | [] => [(k, b)]
  | (k', b') :: m => if k = k' then (k, b) :: m else (k', b') :: tSet k b m
def tDel {β : Type} (k : List Int) : List (List Int × β) → List (List Int × β)
  | [] => []
  | (k', b') :: m => if k = k' then m else (k', b') :: tDel k m
section
variable {P : Program} {w : World} {φ : Phi} {F : Nat → Prop}
theorem intsOf_vr : ∀ {cs : List AV} {l : List Int} {us : List Value}, intsOf cs = some l → VRs φ F w cs us → us = l.map (fun n => Value.int .i64 n) ∧ ∀ n ∈ l, In64 n
  | [], l, us, h, hv => by
    simp only [intsOf, Option.some.injEq] at h; subst h
    rw [VRs] at hv; subst hv
    exact ⟨rfl, fun n hn => by cases hn⟩
  | a :: cs, l, us, h, hv => by
    unfold intsOf at h
    split at h
    · rename_i e; cases e
    · rename_i n r e
      simp only [List.cons.injEq] at e
      obtain ⟨rfl, rfl⟩ := e
      obtain ⟨l', hl, rfl⟩ := Option.map_eq_some_iff.1 h
      rw [VRs] at hv
      obtain ⟨u, us', rfl, h1, h2⟩ := hv
      obtain ⟨rfl, hr⟩ := h1.int_of
      obtain ⟨rfl, h3⟩ := intsOf_vr hl h2
      exact ⟨rfl, fun m hm => by
        rcases List.mem_cons.1 hm with rfl | hm
        · exact hr
        · exact h3 m hm⟩
    · cases h
theorem keyAV_KI {ag : Nat} {x : AV} {k : List Int} {v : Value} (h : keyAV ag x = some k) (hv : VR φ F w x v) : KI ag k v := by
  unfold keyAV at h
  split at h
  · rename_i n
    split at h
    case isFalse => cases h
    rename_i h0
    injection h with h; subst h
    obtain ⟨rfl, hr⟩ := hv.int_of
    exact ⟨fun m hm => by simp only [List.mem_singleton] at hm; subst hm; exact hr, by rw [if_pos h0]; exact ⟨n, rfl, rfl⟩⟩
  · rename_i cs
    split at h
    · cases h
    rename_i h0
    split at h
    case h_2 => cases h
    rename_i l hl
    split at h
    case isFalse => cases h
    rename_i hlen
    injection h with h; subst h
    obtain ⟨us, rfl, h1, _⟩ := hv
    obtain ⟨rfl, h2⟩ := intsOf_vr hl h1
    exact ⟨h2, by rw [if_neg h0]; exact ⟨hlen, rfl⟩⟩
  · cases h
theorem eqCells_ints : ∀ (fs : List Field) (j : Nat) (a b : List Int), intFields P fs j = true → a.length = fs.length → b.length = fs.length →
    eqCells P fs (a.map fun n => AV.p (.int .i64 n)) (b.map fun n => AV.p (.int .i64 n)) j = some (decide (a = b))
  | [], j, a, b, _, ha, hb => by
    obtain rfl : a = [] := List.eq_nil_of_length_eq_zero ha
    obtain rfl : b = [] := List.eq_nil_of_length_eq_zero hb
    rfl
  | f :: fs, j, [], b, _, ha, _ => by simp at ha
  | f :: fs, j, _ :: _, [], _, _, hb => by simp at hb
  | f :: fs, j, m :: a, n :: b, h, ha, hb => by
    simp only [intFields, Bool.and_eq_true] at h
    obtain ⟨⟨⟨h1, h2⟩, h3⟩, h4⟩ := h
    have hn : f.name ≠ "_" := by simpa using h1
    rw [Nat.beq_eq] at h2
    have hu : P.underlying f.type = some (.int .i64) := by
      split at h3
      · assumption
      · cases h3
    have ih := eqCells_ints fs (j + 1) a b h4 (by simpa using ha) (by simpa using hb)
    simp only [List.map_cons, eqCells, hn, h2, false_or, ne_eq, not_true_eq_false, if_false, hu, if_true, ih, Option.map_some, Option.some.injEq]
    by_cases e : m = n
    · subst e; simp
    · simp [e]
theorem ints_vrs : ∀ {l : List Int}, (∀ n ∈ l, In64 n) → VRs φ F w (l.map fun n => AV.p (.int .i64 n)) (l.map fun n => Value.int .i64 n)
  | [], _ => by simp only [List.map_nil]; rw [VRs]
  | n :: l, h => by
    simp only [List.map_cons]
    rw [VRs]
    exact ⟨_, _, rfl, VR.mkInt (h n (by simp)), ints_vrs fun m hm => h m (by simp [hm])⟩
theorem keyTy_cases {kt ag : Nat} (h : keyTy P kt = some ag) : (ag = 0 ∧ P.underlying kt = some (.int .i64)) ∨
    ∃ fs, P.underlying kt = some (.struct fs) ∧ intFields P fs.toList 0 = true ∧ P.stoodInHeld kt = false ∧ ag = fs.size ∧ ag ≠ 0 := by
  unfold keyTy at h
  split at h
  · rename_i hu; injection h with h; exact .inl ⟨h.symm, hu⟩
  · rename_i fs hu
    split at h
    case isFalse => cases h
    rename_i hc
    injection h with h
    simp only [Bool.and_eq_true, Bool.not_eq_true'] at hc
    have := Nat.le_of_ble_eq_true hc.2
    exact .inr ⟨fs, hu, hc.1.1, hc.1.2, h.symm, by omega⟩
  · cases h
theorem run_equal_key {kt ag : Nat} (h : keyTy P kt = some ag) {k k' : List Int} {v v' : Value} (hk : KI ag k v) (hk' : KI ag k' v') : (Op.equal kt v v').run P w = .ok (decide (k = k')) w := by
  rcases keyTy_cases h with ⟨rfl, hu⟩ | ⟨fs, hu, hf, hp, rfl, h0⟩
  · obtain ⟨n, rfl, rfl⟩ := hk.2
    obtain ⟨n', rfl, rfl⟩ := hk'.2
    simp only [Op.equal, Op.maxDepth]
    rw [run_equalIn_int (P := P) w 9999 kt .i64 .i64 n n' hu]
    simp
    rfl
  · have e1 := hk.2; have e2 := hk'.2
    rw [if_neg h0] at e1 e2
    obtain ⟨l1, rfl⟩ := e1
    obtain ⟨l2, rfl⟩ := e2
    have hff : P.fieldsOf kt = fs := by simp [Program.fieldsOf, hu]
    have hu' : P.underlying kt = some (.struct (P.fieldsOf kt)) := by rw [hff]; exact hu
    have q := eqCells_sound (φ := fun _ => none) (F := fun _ => False) (w := w) 9998 (k.map fun n => Value.int .i64 n).toArray (k'.map fun n => Value.int .i64 n).toArray fs.toList _ _ 0 _ _ _ (eqCells_ints fs.toList 0 k k' hf (by simpa using l1) (by simpa using l2))
      (ints_vrs hk.1) (ints_vrs hk'.1) (fun i => by simp) (fun i => by simp)
    simp only [Op.equal, Op.maxDepth]
    rw [run_equalIn_struct (P := P) w 9999 kt _ _ hu' hp, hff]
    exact q
theorem run_checkKey_ints (em : Bool) (d : Nat) (X : Array Value) : ∀ (fs : List Field) (j : Nat) (l : List Int), intFields P fs j = true → l.length = fs.length → (∀ i : Nat, X[j + i]? = (l.map fun n => Value.int .i64 n)[i]?) →
    (forIn fs PUnit.unit (fun f _ => if f.name ≠ "_" then (do
        let x ← part f.type X f.offset
        Instr.checkKey em (d + 1) f.type x
        pure (ForInStep.yield PUnit.unit)) else pure (ForInStep.yield PUnit.unit)) : Sem PUnit).run P w = .ok PUnit.unit w
  | [], j, l, _, _, _ => by simp
  | f :: fs, j, [], _, hl, _ => by simp at hl
  | f :: fs, j, n :: l, h, hl, hX => by
    simp only [intFields, Bool.and_eq_true] at h
    obtain ⟨⟨⟨h1, h2⟩, h3⟩, h4⟩ := h
    have hn : f.name ≠ "_" := by simpa using h1
    rw [Nat.beq_eq] at h2
    have hu : P.underlying f.type = some (.int .i64) := by
      split at h3
      · assumption
      · cases h3
    have e1 : X[j]? = some (.int .i64 n) := by simpa using hX 0
    have ih := run_checkKey_ints em d X fs (j + 1) l h4 (by simpa using hl) (fun i => by have := hX (i + 1); simpa [Nat.add_assoc, Nat.add_comm 1 i] using this)
    simp only [List.forIn_cons]
    simp only [if_pos hn, h2]
    have hp : (part f.type X j).run P w = .ok (.int .i64 n) w := by simp [part, isAgg, run_underlying hu, e1]
    have hc : (Instr.checkKey em (d + 1) f.type (.int .i64 n)).run P w = .ok () w := by
      rw [Instr.checkKey]
      simp [run_underlying hu]
    simp only [Sem.run_bind, hp, Result.andThen_ok, hc, Sem.run_pure]
    exact ih
theorem run_checkKey_KI {kt ag : Nat} (h : keyTy P kt = some ag) {k : List Int} {v : Value} (hk : KI ag k v) (em : Bool) : (Instr.checkKey em 10000 kt v).run P w = .ok () w := by
  rcases keyTy_cases h with ⟨rfl, hu⟩ | ⟨fs, hu, hf, hp, rfl, h0⟩
  · obtain ⟨n, rfl, rfl⟩ := hk.2
    rw [Instr.checkKey]
    simp [run_underlying hu]
  · have e1 := hk.2
    rw [if_neg h0] at e1
    obtain ⟨l1, rfl⟩ := e1
    rw [Instr.checkKey]
    simp only [Sem.run_bind, run_underlying hu, Result.andThen_ok]
    rw [← Array.forIn_toList]
    have q := run_checkKey_ints (P := P) (w := w) em 9998 (k.map fun n => Value.int .i64 n).toArray fs.toList 0 k hf (by simpa using l1) (fun i => by simp)
    rw [q]
    rfl
/-- The keys of the entries. -/
def KRs (ag : Nat) : List (List Int) → List MapEntry → Prop
  | [], [] => True
  | k :: ks, e :: es => KI ag k e.key ∧ KRs ag ks es
  | _, _ => False
def fIdx (k : List Int) : List (List Int) → Option Nat
  | [] => none
  | k' :: ks => if k = k' then some 0 else (fIdx k ks).map (· + 1)
theorem tIdx_fIdx {β : Type} (k : List Int) : ∀ (m : List (List Int × β)), (tIdx k m) = (fIdx k (m.map (·.1))).bind fun i => (m[i]?).map fun x => (i, x.2)
  | [] => rfl
  | (k', b) :: m => by
    simp only [tIdx, List.map_cons, fIdx]
    by_cases h : k = k'
    · simp [h]
    · rw [if_neg h, if_neg h, tIdx_fIdx k m]
      cases fIdx k (m.map (·.1)) with
      | none => rfl
      | some i =>
        simp only [Option.map_some, Option.bind_some, List.getElem?_cons_succ]
        cases m[i]? <;> rfl
theorem fIdx_lt {k : List Int} : ∀ {ks : List (List Int)} {i : Nat}, fIdx k ks = some i → ks[i]? = some k
  | [], i, h => by cases h
  | k' :: ks, i, h => by
    simp only [fIdx] at h
    split at h
    · rename_i e; injection h with h; subst h; subst e; rfl
    · obtain ⟨j, hj, rfl⟩ := Option.map_eq_some_iff.1 h
      simpa using fIdx_lt hj
theorem KRs.len {ag : Nat} : ∀ {ks : List (List Int)} {es : List MapEntry}, KRs ag ks es → ks.length = es.length
  | [], [], _ => rfl
  | _ :: _, _ :: _, h => by simp [KRs.len h.2]
  | [], _ :: _, h => h.elim
  | _ :: _, [], h => h.elim
theorem KRs.get {ag : Nat} : ∀ {ks : List (List Int)} {es : List MapEntry}, KRs ag ks es → ∀ {i : Nat} {k : List Int} {e : MapEntry}, ks[i]? = some k → es[i]? = some e → KI ag k e.key
  | [], [], _, i, k, e, h1, _ => by simp at h1
  | _ :: _, _ :: _, h, 0, k, e, h1, h2 => by simp at h1 h2; subst h1; subst h2; exact h.1
  | _ :: _, _ :: _, h, i + 1, k, e, h1, h2 => h.2.get (by simpa using h1) (by simpa using h2)
  | [], _ :: _, h, _, _, _, _, _ => h.elim
  | _ :: _, [], h, _, _, _, _, _ => h.elim
theorem run_findAsking_KI {kt ag : Nat} (h : keyTy P kt = some ag) {k : List Int} {v : Value} (hk : KI ag k v) : ∀ (ks : List (List Int)) (es : List MapEntry) (i : Nat), KRs ag ks es →
    (Instr.findAsking kt v es i).run P w = .ok ((fIdx k ks).bind fun j => (es[j]?).map fun e => (i + j, e.val)) w
  | [], [], i, _ => by simp [Instr.findAsking, fIdx]
  | k' :: ks, e :: es, i, hr => by
    have q := run_equal_key (w := w) h hk hr.1
    simp only [Instr.findAsking, Sem.run_bind, q, Result.andThen_ok, fIdx]
    by_cases hkk : k = k'
    · simp [hkk]
    · have ih := run_findAsking_KI h hk ks es (i + 1) hr.2
      simp only [hkk, decide_false, Bool.false_eq_true, if_false, ih]
      cases fIdx k ks with
      | none => rfl
      | some j => simp [Nat.add_assoc, Nat.add_comm 1 j]
  | [], _ :: _, _, h => h.elim
  | _ :: _, [], _, h => h.elim
theorem findNow_KI {k : List Int} {v : Value} (hk : KI 0 k v) : ∀ (ks : List (List Int)) (es : List MapEntry) (i : Nat), KRs 0 ks es →
    Instr.findNow (.int .i64) v es i = some ((fIdx k ks).bind fun j => (es[j]?).map fun e => (i + j, e.val))
  | [], [], i, _ => by simp [Instr.findNow, fIdx]
  | k' :: ks, e :: es, i, hr => by
    obtain ⟨n, rfl, rfl⟩ := hk.2
    obtain ⟨n', rfl, he⟩ := hr.1.2
    have ih := findNow_KI hk ks es (i + 1) hr.2
    simp only [Instr.findNow, Instr.sameNow, he, if_true, fIdx]
    by_cases hkk : n = n'
    · subst hkk; simp
    · have h1 : (n == n') = false := by simp [hkk]
      have h2 : ¬ [n] = [n'] := by simp [hkk]
      rw [h1, if_neg h2]
      simp only [ih]
      cases fIdx [n] ks with
      | none => rfl
      | some j => simp [Nat.add_assoc, Nat.add_comm 1 j]
  | [], _ :: _, _, h => h.elim
  | _ :: _, [], _, h => h.elim
theorem run_findKey_KI {kt ag : Nat} (h : keyTy P kt = some ag) {k : List Int} {v : Value} (hk : KI ag k v) {ks : List (List Int)} {es : List MapEntry} (hr : KRs ag ks es) :
    (Instr.findKey kt v es).run P w = .ok ((fIdx k ks).bind fun j => (es[j]?).map fun e => (j, e.val)) w := by
  rcases keyTy_cases h with ⟨rfl, hu⟩ | ⟨fs, hu, hf, hp, rfl, h0⟩
  · have q := findNow_KI hk ks es 0 hr
    simp only [Nat.zero_add] at q
    exact MapKept.run_findKey hu q
  · rw [run_findKey_eq w (by rw [hu]), run_findAsking_KI h hk ks es 0 hr]
    simp
theorem sameBits_KI {ag : Nat} {k : List Int} {v v' : Value} (h : KI ag k v) (h' : KI ag k v') : v = v' := by
  by_cases h0 : ag = 0
  · have e1 := h.2; have e2 := h'.2
    rw [if_pos h0] at e1 e2
    obtain ⟨n, rfl, rfl⟩ := e1
    obtain ⟨n', e, rfl⟩ := e2
    simp at e; rw [e]
  · have e1 := h.2; have e2 := h'.2
    rw [if_neg h0] at e1 e2
    rw [e1.2, e2.2]
theorem sameBits_self_ints (n : Nat) : ∀ (l : List Int), ((l.map fun n => Value.int .i64 n).zip (l.map fun n => Value.int .i64 n)).all (fun (x, y) => Instr.sameBits n x y) = true
  | [] => rfl
  | m :: l => by
    simp only [List.map_cons, List.zip_cons_cons, List.all_cons, sameBits_self_ints n l, Bool.and_true]
    cases n <;> simp [Instr.sameBits]
theorem run_keyThatStays_KI {ag : Nat} {k : List Int} {v : Value} (h : KI ag k v) : (Instr.keyThatStays v v).run P w = .ok v w := by
  have hs : Instr.sameBits 10000 v v = true := by
    by_cases h0 : ag = 0
    · have e1 := h.2
      rw [if_pos h0] at e1
      obtain ⟨n, rfl, rfl⟩ := e1
      simp [Instr.sameBits]
    · have e1 := h.2
      rw [if_neg h0] at e1
      rw [e1.2, Instr.sameBits]
      simp only [List.size_toArray, beq_self_eq_true, Bool.true_and]
      exact sameBits_self_ints _ k
  simp [Instr.keyThatStays, hs]
theorem PRs.keys {ag : Nat} : ∀ {m : List (List Int × PV)} {es : List MapEntry}, PRs ag w F m es → KRs ag (m.map (·.1)) es
  | [], [], _ => trivial
  | (_, _) :: _, _ :: _, h => ⟨h.1, h.2.2.keys⟩
  | [], _ :: _, h => h.elim
  | _ :: _, [], h => h.elim
theorem PRs.val {ag : Nat} : ∀ {m : List (List Int × PV)} {es : List MapEntry}, PRs ag w F m es → ∀ {i : Nat} {x : List Int × PV}, m[i]? = some x → ∃ e, es[i]? = some e ∧ RV w F e.val x.2
  | [], [], _, i, x, h => by simp at h
  | (k, p) :: m, e :: es, h, 0, x, hx => by simp at hx; subst hx; exact ⟨e, rfl, h.2.1⟩
  | (k, p) :: m, e :: es, h, i + 1, x, hx => by simpa using h.2.2.val (by simpa using hx)
  | [], _ :: _, h, _, _, _ => h.elim
  | _ :: _, [], h, _, _, _ => h.elim
theorem PRs.set {ag : Nat} {k : List Int} {kv v : Value} {p : PV} {new : MapEntry} (hk : KI ag k kv) (hv : RV w F v p) (h1 : new.key = kv) (h2 : new.val = v) : ∀ {m : List (List Int × PV)} {es : List MapEntry}, PRs ag w F m es →
    PRs ag w F (tSet k p m) (match fIdx k (m.map (·.1)) with | some i => es.modify i (fun e => { e with key := kv, val := v }) | none => es ++ [new])
  | [], [], _ => ⟨by rw [h1]; exact hk, by rw [h2]; exact hv, trivial⟩
  | (k', p') :: m, e :: es, h => by
    simp only [tSet, List.map_cons, fIdx]
    by_cases e1 : k = k'
    · simp only [e1, if_true, List.modify_zero_cons]
      exact ⟨by rw [← e1]; exact hk, hv, h.2.2⟩
    · rw [if_neg e1, if_neg e1]
      have ih := PRs.set hk hv h1 h2 h.2.2
      cases hf : fIdx k (m.map (·.1)) with
      | none => rw [hf] at ih; exact ⟨h.1, h.2.1, ih⟩
      | some i => rw [hf] at ih; simp only [Option.map_some, List.modify_succ_cons]; exact ⟨h.1, h.2.1, ih⟩
  | [], _ :: _, h => h.elim
  | _ :: _, [], h => h.elim
theorem PRs.del {ag : Nat} {k : List Int} : ∀ {m : List (List Int × PV)} {es : List MapEntry}, PRs ag w F m es →
    PRs ag w F (tDel k m) (match fIdx k (m.map (·.1)) with | some i => es.eraseIdx i | none => es)
  | [], [], _ => trivial
  | (k', p') :: m, e :: es, h => by
    simp only [tDel, List.map_cons, fIdx]
    by_cases e1 : k = k'
    · simp only [e1, if_true, List.eraseIdx_cons_zero]
      exact h.2.2
    · rw [if_neg e1, if_neg e1]
      have ih := PRs.del (k := k) h.2.2
      cases hf : fIdx k (m.map (·.1)) with
      | none => rw [hf] at ih; exact ⟨h.1, h.2.1, ih⟩
      | some i => rw [hf] at ih; simp only [Option.map_some, List.eraseIdx_cons_succ]; exact ⟨h.1, h.2.1, ih⟩
  | [], _ :: _, h => h.elim
  | _ :: _, [], h => h.elim
theorem Stamps.modify {es : List MapEntry} {clock : Nat} (h : Stamps es clock) (i : Nat) (kv v : Value) : Stamps (es.modify i (fun e => { e with key := kv, val := v })) clock := by
  have e1 : (es.modify i (fun e => { e with key := kv, val := v })).map (·.born) = es.map (·.born) := by
    apply List.ext_getElem?
    intro j
    rw [List.getElem?_map, List.getElem?_modify, List.getElem?_map]
    cases es[j]? with
    | none => rfl
    | some e => by_cases hj : i = j <;> simp [hj]
  refine ⟨by rw [e1]; exact h.1, fun e he => ?_⟩
  have hm : e.born ∈ es.map (·.born) := by rw [← e1]; exact List.mem_map.2 ⟨e, he, rfl⟩
  obtain ⟨e', h1, h2⟩ := List.mem_map.1 hm
  rw [← h2]; exact h.2 e' h1
theorem Stamps.push {es : List MapEntry} {clock : Nat} (h : Stamps es clock) (new : MapEntry) (hn : new.born = clock) : Stamps (es ++ [new]) (clock + 1) := by
  refine ⟨?_, fun e he => ?_⟩
  · rw [List.map_append, List.nodup_append]
    refine ⟨h.1, by simp, fun a ha b hb => ?_⟩
    simp only [List.map_cons, List.map_nil, List.mem_singleton] at hb
    obtain ⟨e', h1, rfl⟩ := List.mem_map.1 ha
    have := h.2 e' h1
    omega
  · rcases List.mem_append.1 he with he | he
    · have := h.2 e he; omega
    · simp only [List.mem_singleton] at he; subst he; omega
theorem Stamps.erase {es : List MapEntry} {clock : Nat} (h : Stamps es clock) (i : Nat) : Stamps (es.eraseIdx i) clock :=
  ⟨h.1.sublist ((List.eraseIdx_sublist _ _).map _), fun e he => h.2 e ((List.eraseIdx_sublist _ _).subset he)⟩
end
/-! ### The operations -/
/-- An element of an array that is a value. -/
def semIndex (P : Program) (t : Nat) (r : Option AV) : List AV → Option Out
  | [.agg cs, .p (.int _ i)] => match P.underlying t, r with
    | some (.array n e), some x => match P.info? e with
      | some it => if it.size = 1 ∧ aggT P e = some false then outV x (0 ≤ i ∧ i < (n : Int) ∧ cs[i.toNat]? = some x) else none
      | none => none
    | _, _ => none
  | _ => none
def semMakeMap (P : Program) (t : Nat) (dst : Option Nat) (orc : Orc) : List AV → Option Out
  | [] => match P.underlying t, newId dst orc.id with
    | some (.map kt e), some N => match keyTy P kt with
      | some ag =>
        if orc.own then
          match sliceOf P e with
          | some (el, k) => if k.size = 1 then some ⟨some (.map N), [(N, some (.tab ag el []))], True, [N]⟩ else none
          | none => none
        else some ⟨some (.map N), [(N, some (.ptab ag []))], True, [N]⟩
      | none => none
    | _, _ => none
  | _ => none
def zeroOne (P : Program) (e : Nat) : Option AV :=
  match P.info? e with
  | some i => match i.zero with
    | some z => ofValue z
    | none => none
  | none => none
def semLookup (P : Program) (t : Nat) (ok : Bool) (h : AHeap) : List AV → Option Out
  | [.map id, x] => match h.get id, P.underlying t, ok with
    | some (.ptab ag m), some (.map kt e), false =>
      if keyTy P kt = some ag then
      match keyAV ag x, zeroOne P e with
      | some k, some z => match z.pure? with
        | some zp => outV (.p ((tGet k m).getD zp)) True
        | none => none
      | _, _ => none
      else none
    | _, _, _ => none
  | _ => none
def semMapUpdate (P : Program) (t : Nat) (h : AHeap) : List AV → Option Out
  | [.map id, x, v] => match h.get id, P.underlying t with
    | some (.ptab ag m), some (.map kt _) =>
      if keyTy P kt = some ag then
      match keyAV ag x, v.pure? with
      | some k, some p => some ⟨none, [(id, some (.ptab ag (tSet k p m)))], True, []⟩
      | _, _ => none
      else none
    | _, _ => none
  | _ => none
def semDelete (P : Program) (t : Nat) (h : AHeap) : List AV → Option Out
  | [.map id, x] => match h.get id, P.underlying t with
    | some (.ptab ag m), some (.map kt _) =>
      if keyTy P kt = some ag then
      match keyAV ag x with
      | some k => some ⟨some (.tup []), [(id, some (.ptab ag (tDel k m)))], True, []⟩
      | none => none
      else none
    | _, _ => none
  | _ => none
section
variable {P : Program} {C : Ctx} {st : St} {a : Act} {w : World} {φ : Phi} {F : Nat → Prop}
theorem Sim.allocObj (h : Sim C st a w φ F) {id : Nat} {B' : ABlk} (hf : Fresh st id) (hp : C.pin id = none) (o : Obj)
    (hB : BR (φ.set id (some (some (w.heap.size, ⟨0, []⟩)))) F (w.alloc o) w.heap.size ⟨0, []⟩ B') :
    Sim C (st.blk id (some B')) a (w.alloc o) (φ.set id (some (some (w.heap.size, ⟨0, []⟩)))) F := by
  refine h.turn (y := some (w.heap.size, ⟨0, []⟩)) (F' := F) (.inr ⟨hf, hp⟩) rfl rfl rfl (by simp) (fun _ k => k) (fun b hb => ⟨by have := h.Fd b hb; simp; omega, .inl hb⟩) (fun b (hb : b < w.heap.size) _ => Below.heap_alloc w _ b hb) ?_ (fun b N e => by injection e with e; injection e with e1 e2; subst e1; subst e2; exact ⟨rfl, fun i b' N' hi hc => by have := (h.Dok i b' N' hi _ hc).1; omega⟩) ?_ (fun i b N hi c hc => (h.Dok i b N hi c hc).2.1) ⟨hB, ?_, .inr h.size⟩
  · rintro b N e
    injection e with e; injection e with e1 e2; subst e1
    refine ⟨fun hb => by have := h.Fd _ hb; omega, .inr h.size, fun i N' hi => ?_⟩
    cases hB0 : st.H i with
    | none => exact absurd hB0 (h.dom i _ hi)
    | some B => have := (h.own_at hB0 hi).1.lt; omega
  · intro i b N hi hφ hb
    cases hB0 : st.H i with
    | none => exact absurd hB0 (h.dom i _ hφ)
    | some B => exact (h.own_at hB0 hφ).2.1 hb
  · intro hb
    have := h.Fd _ hb
    omega
theorem semMakeMap_sound (h : Sim C st a w φ F) {t : Nat} {dst : Option Nat} {orc : Orc} {out : Out} {args : List AV} (hs : semMakeMap P t dst orc args = some out) (hnew : ∀ id ∈ out.new, Fresh st id ∧ C.pin id = none) :
    Makes P C st a w out (Instr.makeMap t none) := by
  unfold semMakeMap at hs
  split at hs
  case h_2 => cases hs
  split at hs
  case h_2 => cases hs
  rename_i kt e N hu hN
  split at hs
  case h_2 => cases hs
  rename_i ag hag
  have hr : (Instr.makeMap t none).run P w = .ok (.map (some w.heap.size)) (w.alloc (.map #[] 0)) := by
    simp [Instr.makeMap]
  have key : ∀ B, BR (φ.set N (some (some (w.heap.size, ⟨0, []⟩)))) F (w.alloc (.map #[] 0)) w.heap.size ⟨0, []⟩ B → some (⟨some (.map N), [(N, some B)], True, [N]⟩ : Out) = some out → Makes P C st a w out (Instr.makeMap t none) := fun B hB hs => by
    injection hs with hs; subst hs
    obtain ⟨hf, hp⟩ := hnew N (by simp)
    refine ⟨_, _, _, _, hr, h.allocObj hf hp _ hB, _, rfl, fun y hy => ?_⟩
    rw [Phi.set_eq] at hy; injection hy with hy; subst hy
    exact ⟨_, _, rfl, rfl⟩
  have hh : (w.alloc (.map #[] 0)).heap[w.heap.size]? = some (.map #[] 0) := heap_alloc_new w _
  split at hs
  · split at hs
    case h_2 => cases hs
    split at hs
    case isFalse => cases hs
    rename_i el k _ _
    exact key (.tab ag el []) ⟨#[], 0, hh, by simp, ⟨by simp, fun e he => by cases he⟩, rfl⟩ hs
  · exact key (.ptab ag []) ⟨#[], 0, hh, rfl, ⟨by simp, fun e he => by cases he⟩, trivial⟩ hs
theorem pure_vr {z : AV} {p : PV} {v : Value} (hp : z.pure? = some p) (h : VR φ F w z v) : RV w F v p := by
  cases z <;> simp only [AV.pure?] at hp <;> try (cases hp; done)
  · injection hp with hp; subst hp; exact h
  · injection hp with hp; subst hp
    have := VR.pur .nils h
    simpa [AV.pur, VR] using this
theorem run_zeroValue_one {e : Nat} {z : AV} (h : zeroOne P e = some z) : ∃ v, (zeroValue e).run P w = .ok v w ∧ VR φ F w z v := by
  unfold zeroOne at h
  split at h
  case h_2 => cases h
  rename_i i hi
  split at h
  case h_2 => cases h
  rename_i zv hz
  exact ⟨zv, by simp [zeroValue, typeInfo, hi, hz], VR.ofValue h⟩
theorem semLookup_sound (h : Sim C st a w φ F) {t : Nat} {ok : Bool} {hp : AHeap} (hh : ∀ id B, hp.get id = some B → st.H id = some B) {args : List AV} {u v : Value} {out : Out}
    (hs : semLookup P t ok hp args = some out) (hv : VRs φ F w args [u, v]) : Yields P φ F w out (Instr.lookup t u v ok) := by
  unfold semLookup at hs
  split at hs
  case h_2 => cases hs
  rename_i id x
  obtain ⟨h1, h2⟩ := hv.two
  split at hs
  case h_2 => cases hs
  rename_i ag m kt e hg hu
  split at hs
  case isFalse => cases hs
  rename_i hkt
  split at hs
  case h_2 => cases hs
  rename_i k z hk hz
  split at hs
  case h_2 => cases hs
  rename_i zp hzp
  obtain ⟨y, hy⟩ := h.live (hh _ _ hg)
  obtain ⟨b, N, rfl, rfl⟩ := h1 y hy
  obtain ⟨⟨es, clock, e1, e2, e3, e4⟩, _⟩ := h.own_at (hh _ _ hg) hy
  have hKI := keyAV_KI hk h2
  have hf := run_findKey_KI (w := w) hkt hKI e4.keys
  have hc := run_checkKey_KI (w := w) hkt hKI es.isEmpty
  obtain ⟨zv, z1, z2⟩ := run_zeroValue_one (w := w) (φ := φ) (F := F) hz
  have ht := tIdx_fIdx k m
  cases hfi : fIdx k (m.map (·.1)) with
  | none =>
    rw [hfi] at hf ht
    refine .mk hs (v := zv) ?_ ?_
    · simp [Instr.lookup, run_underlying hu, MapKept.run_getObj_map e1, hc, hf, z1, Result.andThen]
    · have : tGet k m = none := by simp [tGet, ht]
      rw [this]
      exact pure_vr hzp z2
  | some i =>
    rw [hfi] at hf ht
    have hi := fIdx_lt hfi
    rw [List.getElem?_map] at hi
    obtain ⟨x0, hx0, hx1⟩ := Option.map_eq_some_iff.1 hi
    obtain ⟨e0, he0, hr0⟩ := e4.val hx0
    refine .mk hs (v := e0.val) ?_ ?_
    · simp only [Option.bind_some, he0, Option.map_some] at hf
      simp [Instr.lookup, run_underlying hu, MapKept.run_getObj_map e1, hc, hf, Result.andThen]
    · have : tGet k m = some x0.2 := by simp [tGet, ht, hx0]
      rw [this]
      exact hr0
theorem setBlock_other (w : World) (b : Nat) (o : Obj) {k : Nat} (h : k ≠ b) : (setBlock w b o).heap[k]? = w.heap[k]? := by
  unfold setBlock; simp [Array.getElem?_setIfInBounds_ne (Ne.symm h)]
theorem setBlock_same (w : World) (b : Nat) (o : Obj) (h : b < w.heap.size) : (setBlock w b o).heap[b]? = some o := by
  unfold setBlock; simp [h]
theorem Sim.setMap (h : Sim C st a w φ F) {id b : Nat} {N : Sz} {ag : Nat} {m m' : List (List Int × PV)} (hB : st.H id = some (.ptab ag m)) (hφ : φ id = some (some (b, N))) {es' : List MapEntry} {arr : Array MapEntry} {clock' : Nat} (ha : arr.toList = es')
    (hst : Stamps es' clock') (hm : PRs ag w F m' es') : Sim C (st.blk id (some (.ptab ag m'))) a (setBlock w b (.map arr clock')) φ F := by
  obtain ⟨hbr, hnF, hG⟩ := h.own_at hB hφ
  have hlt := hbr.lt
  obtain ⟨es, clock, e1, e2, e3, e4⟩ := hbr
  have hkF : KeptF F w (setBlock w b (.map arr clock')) := fun c hc => setBlock_other w b _ (fun e => hnF (e ▸ hc))
  refine h.write hφ rfl rfl rfl (by simp [setBlock]) (fun k hk => setBlock_other w b _ hk) e2 ⟨arr, clock', setBlock_same w b _ hlt, e2, by rw [ha]; exact hst, ?_⟩
  rw [ha]
  exact hm.keep (fun _ k => k) hkF
theorem semMapUpdate_sound (h : Sim C st a w φ F) {t : Nat} {hp : AHeap} (hh : ∀ id B, hp.get id = some B → st.H id = some B) {args : List AV} {u v x : Value} {out : Out}
    (hs : semMapUpdate P t hp args = some out) (hv : VRs φ F w args [u, v, x]) : ∃ w', (Instr.mapUpdate t u v x).run P w = .ok () w' ∧ Sim C (st.on out.upd) a w' φ F ∧ out.val = none := by
  unfold semMapUpdate at hs
  split at hs
  case h_2 => cases hs
  rename_i id kx vx
  rw [VRs] at hv
  obtain ⟨_, _, e, h1, hv⟩ := hv
  simp only [List.cons.injEq] at e
  obtain ⟨rfl, rfl⟩ := e
  obtain ⟨h2, h3⟩ := hv.two
  split at hs
  case h_2 => cases hs
  rename_i ag m kt e hg hu
  split at hs
  case isFalse => cases hs
  rename_i hkt
  split at hs
  case h_2 => cases hs
  rename_i k p hk hpv
  injection hs with hs; subst hs
  obtain ⟨y, hy⟩ := h.live (hh _ _ hg)
  obtain ⟨b, N, rfl, rfl⟩ := h1 y hy
  obtain ⟨⟨es, clock, e1, e2, e3, e4⟩, _⟩ := h.own_at (hh _ _ hg) hy
  have hKI := keyAV_KI hk h2
  have hf := run_findKey_KI (w := w) hkt hKI e4.keys
  have hc := run_checkKey_KI (w := w) hkt hKI false
  have hrv := pure_vr hpv h3
  have hset := e4.set hKI hrv (new := ⟨v, x, clock⟩) rfl rfl
  cases hfi : fIdx k (m.map (·.1)) with
  | none =>
    rw [hfi] at hf hset
    refine ⟨setBlock w b (.map (es.push ⟨v, x, clock⟩) (clock + 1)), ?_, ?_, rfl⟩
    · simp [Instr.mapUpdate, run_underlying hu, MapKept.run_getObj_map e1, hc, hf, MapKept.run_setObj_map _ e1, Result.andThen, setBlock]
    · exact h.setMap (hh _ _ hg) hy (by simp) (e3.push _ rfl) hset
  | some i =>
    rw [hfi] at hf hset
    have hi := fIdx_lt hfi
    have hil : i < es.toList.length := by rw [← e4.keys.len]; exact (List.getElem?_eq_some_iff.1 hi).1
    have hes : es[i]? = some es.toList[i] := by rw [← Array.getElem?_toList, List.getElem?_eq_getElem hil]
    have hkey : (es.toList[i]).key = v := sameBits_KI (e4.keys.get hi (List.getElem?_eq_getElem hil)) hKI
    simp only [Option.bind_some, List.getElem?_eq_getElem hil, Option.map_some] at hf
    refine ⟨setBlock w b (.map (es.modify i fun e => { e with key := v, val := x }) clock), ?_, ?_, rfl⟩
    · have hks := run_keyThatStays_KI (P := P) (w := w) hKI
      simp only [Instr.mapUpdate, Sem.run_bind, run_underlying hu, Result.andThen_ok, MapKept.run_getObj_map e1, hc, hf, Option.map_some, hes, Option.getD_some, hkey, hks, MapKept.run_setObj_map _ e1]
      rfl
    · exact h.setMap (hh _ _ hg) hy (by rw [Array.toList_modify]) (e3.modify i v x) hset
theorem semDelete_sound (h : Sim C st a w φ F) {t kt' ty : Nat} {hp : AHeap} (hh : ∀ id B, hp.get id = some B → st.H id = some B) {args : List AV} {u v : Value} {out : Out}
    (hs : semDelete P t hp args = some out) (hv : VRs φ F w args [u, v]) : Makes P C st a w out (Builtin.delete_ #[t, kt'] ty #[u, v]) := by
  unfold semDelete at hs
  split at hs
  case h_2 => cases hs
  rename_i id kx
  obtain ⟨h1, h2⟩ := hv.two
  split at hs
  case h_2 => cases hs
  rename_i ag m kt e hg hu
  split at hs
  case isFalse => cases hs
  rename_i hkt
  split at hs
  case h_2 => cases hs
  rename_i k hk
  injection hs with hs; subst hs
  obtain ⟨y, hy⟩ := h.live (hh _ _ hg)
  obtain ⟨b, N, rfl, rfl⟩ := h1 y hy
  obtain ⟨⟨es, clock, e1, e2, e3, e4⟩, _⟩ := h.own_at (hh _ _ hg) hy
  have hKI := keyAV_KI hk h2
  have hf := run_findKey_KI (w := w) hkt hKI e4.keys
  have hc := run_checkKey_KI (w := w) hkt hKI es.isEmpty
  have hdel := e4.del (k := k)
  have hval : VR φ F w (.tup []) (.tuple #[]) := ⟨[], rfl, by rw [VRs]⟩
  cases hfi : fIdx k (m.map (·.1)) with
  | none =>
    rw [hfi] at hf hdel
    refine ⟨.tuple #[], setBlock w b (.map es clock), φ, F, ?_, h.setMap (hh _ _ hg) hy rfl e3 hdel, _, rfl, ⟨[], rfl, by rw [VRs]⟩⟩
    simp [Builtin.delete_, run_underlying hu, MapKept.run_getObj_map e1, hc, hf, MapKept.run_setObj_map _ e1, Result.andThen, setBlock]
  | some i =>
    rw [hfi] at hf hdel
    have hi := fIdx_lt hfi
    have hil : i < es.toList.length := by rw [← e4.keys.len]; exact (List.getElem?_eq_some_iff.1 hi).1
    simp only [Option.bind_some, List.getElem?_eq_getElem hil, Option.map_some] at hf
    have hsub : (es.eraseIdxIfInBounds i).toList = es.toList.eraseIdx i := by
      unfold Array.eraseIdxIfInBounds
      rw [dif_pos (by simpa using hil)]
      simp
    refine ⟨.tuple #[], setBlock w b (.map (es.eraseIdxIfInBounds i) clock), φ, F, ?_, h.setMap (hh _ _ hg) hy hsub (e3.erase i) hdel, _, rfl, ⟨[], rfl, by rw [VRs]⟩⟩
    simp [Builtin.delete_, run_underlying hu, MapKept.run_getObj_map e1, hc, hf, MapKept.run_setObj_map _ e1, Result.andThen, setBlock]
theorem semIndex_sound {t : Nat} {r : Option AV} {args : List AV} {u v : Value} {out : Out} (hs : semIndex P t r args = some out) (hc : out.cond) (hv : VRs φ F w args [u, v]) : Yields P φ F w out (Instr.index t u v) := by
  unfold semIndex at hs
  split at hs
  case h_2 => cases hs
  rename_i cs kd i
  obtain ⟨h1, h2⟩ := hv.two
  obtain ⟨rfl, _⟩ := h2.int_of
  split at hs
  case h_2 => cases hs
  rename_i n e x hu
  split at hs
  case h_2 => cases hs
  rename_i it hi
  split at hs
  case isFalse => cases hs
  rename_i hcnd
  obtain ⟨hsz, hag⟩ := hcnd
  have hcc : 0 ≤ i ∧ i < (n : Int) ∧ cs[i.toNat]? = some x := by
    injection hs with hs; subst hs; exact hc
  obtain ⟨us, rfl, h3, _⟩ := h1
  obtain ⟨y, hy, hyx⟩ := h3.get _ _ hcc.2.2
  refine .mk hs (v := y) ?_ hyx
  have ha : (isAgg e).run P w = .ok false w := by
    unfold aggT at hag
    split at hag
    · cases hag
    · cases hag
    · rename_i d hne1 hne2 hd
      simp only [isAgg, Sem.run_bind, run_underlying hd, Result.andThen_ok, Sem.run_pure]
    · cases hag
  simp only [Instr.index, asIntOf, Sem.run_bind, Result.andThen_ok, run_underlying hu, pure_bind]
  rw [if_pos ⟨hcc.1, hcc.2.1⟩]
  simp [sizeOf, typeInfo, hi, hsz, part, ha, hy]
end
end Go.AM
end
section
namespace Go.AM
open Go Go.RowKit
def fetch (σ : Nat → Option AV) : Operand → Option AV
  | .tmp t => σ t
  | .const v => ofValue v
  | .func f => some (.fn f [] [])
  | .global _ => none
def fetchAll (σ : Nat → Option AV) : List Operand → Option (List AV)
  | [] => some []
  | x :: xs => match fetch σ x, fetchAll σ xs with
    | some a, some as => some (a :: as)
    | _, _ => none
/-- The operands' values, in order; of a 'pick' only the one that is picked. -/
def fetchOp (σ : Nat → Option AV) : Op → Option (List AV)
  | .pick c a b => match fetch σ c with
    | some (.p (.bool true)) => (fetch σ a).map fun x => [x]
    | some (.p (.bool false)) => (fetch σ b).map fun x => [x]
    | _ => none
  | op => fetchAll σ op.operands.toList
def fetchBlks (H : Nat → Option ABlk) : List Nat → Option AHeap
  | [] => some []
  | i :: is => match H i, fetchBlks H is with
    | some B, some h => some ((i, B) :: h)
    | _, _ => none
def memB (id : Nat) : List Nat → Bool
  | [] => false
  | i :: is => Nat.beq i id || memB id is
def semCall (P : Program) (f : Nat) (args : List AV) (orc : Orc) (hp : AHeap) : Option Out :=
  match orc.r with
  | none => none
  | some res =>
    let keys := orc.post.map (·.1)
    let known := orc.fp ++ keys
    if decide keys.Nodup && (res.ids.all fun i => memB i known) && (orc.post.all fun x => x.2.ids.all fun i => memB i known) then
      some ⟨some res, callUpd orc.fp orc.post, ASpec P f (AV.purL args) hp res orc.post, keys.filter fun i => !memB i orc.fp⟩
    else none
def sem (P : Program) (o : Oper) (orc : Orc) (args : List AV) (h : AHeap) : Option Out :=
  match o.op with
  | .move _ | .assign _ => match args with | [x] => outV x True | _ => none
  | .pick _ _ _ => match args with | [x] => outV x True | _ => none
  | .alloc t => semAlloc t o.dst orc (zeroCells P t)
  | .box t _ => match args with | [x] => semAlloc t o.dst orc x.cells? | _ => none
  | .build t parts => semBuild P t (parts.toList.map (·.1)) args
  | .buildSlice t n parts => semBuildSlice P t n (parts.toList.map (·.1)) o.dst orc args
  | .load t _ => semLoad P t orc.r h args
  | .store t _ _ => if 0 < P.cellsOf t then semStore P t h args else none
  | .nilCheck _ => match args with
    | [.ptr id off] => outV (.ptr id off) True
    | [.rp cs off] => outV (.rp cs off) True
    | _ => none
  | .binOp op t _ _ _ => semBin P op t args
  | .unOp op _ _ => semUn op args
  | .convert src dst _ => semConvert P src dst args
  | .makeFunc (.func f) first _ => outV (.fn f (args.take first.size) (args.drop first.size)) True
  | .makeSlice t _ _ => semMakeSlice P t o.dst orc args
  | .slice t _ lo hi mx => semSlice P t lo.isSome hi.isSome mx.isSome args
  | .fieldAddr s _ f => semFieldAddr P s f args
  | .field s _ f => semField P s f args
  | .indexAddr t _ _ => semIndexAddr P t args
  | .makeMap t none => semMakeMap P t o.dst orc args
  | .lookup t _ _ ok => semLookup P t ok h args
  | .index t _ _ => semIndex P t orc.r args
  | .mapUpdate t _ _ _ => semMapUpdate P t h args
  | .extract _ i => match args with
    | [.tup vs] => match vs[i]? with | some x => outV x True | none => none
    | _ => none
  | .call c => match c.callee with
    | .builtin .len => match c.argTypes.toList with | [t] => semLen P t h args | _ => none
    | .builtin .append => semAppend P c.argTypes o.dst orc h args
    | .builtin .delete => match c.argTypes.toList with | [t, _] => semDelete P t h args | _ => none
    | .builtin .max => semMax2 false args
    | .builtin .min => semMax2 true args
    | .value _ => match args with
      | .fn f first caps :: args => semCall P f (first ++ args ++ caps) orc h
      | _ => none
    | _ => none
  | _ => none
/-- The value told from outside, held against the one that is reckoned. -/
def told (op : Op) (r : Option AV) (out : Out) : Out :=
  match op, r with
  | .load _ _, _ | .index _ _ _, _ | .call { callee := .value _, .. }, _ | .buildSlice _ _ _, _ => out
  | _, some x => { out with val := some x, cond := out.cond ∧ out.val = some x }
  | _, none => out
def callsValue : Op → Bool
  | .call { callee := .value _, .. } => true
  | _ => false
def stepOut (P : Program) (o : Oper) (orc : Orc) (σ : Nat → Option AV) (H : Nat → Option ABlk) : Option Out :=
  match fetchOp σ o.op with
  | none => none
  | some args => match fetchBlks H (AV.ids.idsOf args), fetchBlks H orc.fp with
    | some h, some hf => (sem P o orc args (if callsValue o.op then hf else h)).map (told o.op orc.r)
    | _, _ => none
section
variable {P : Program} {C : Ctx} {st : St} {a : Act} {w : World} {φ : Phi} {F : Nat → Prop}
theorem fetch_sound (h : Sim C st a w φ F) {x : Operand} {y : AV} (hx : fetch st.σ x = some y) : VR φ F w y (a.eval x) := by
  cases x with
  | tmp t => exact h.env t y hx
  | const v => exact VR.ofValue hx
  | func f =>
    simp only [fetch] at hx; injection hx with hx; subst hx
    exact ⟨[], [], rfl, by rw [VRs], by rw [VRs]⟩
  | global g => cases hx
theorem fetchAll_sound (h : Sim C st a w φ F) : ∀ {xs : List Operand} {ys : List AV}, fetchAll st.σ xs = some ys → VRs φ F w ys (xs.map a.eval)
  | [], ys, hx => by simp only [fetchAll] at hx; injection hx with hx; subst hx; rw [VRs]; rfl
  | x :: xs, ys, hx => by
    simp only [fetchAll] at hx
    split at hx
    · rename_i y zs h1 h2
      injection hx with hx; subst hx
      rw [VRs]
      exact ⟨_, _, rfl, fetch_sound h h1, fetchAll_sound h h2⟩
    · cases hx
theorem fetchBlks_get {H : Nat → Option ABlk} : ∀ {l : List Nat} {h : AHeap}, fetchBlks H l = some h → ∀ id, h.get id = if id ∈ l then H id else none
  | [], h, hx, id => by simp only [fetchBlks] at hx; injection hx with hx; subst hx; rfl
  | i :: is, h, hx, id => by
    simp only [fetchBlks] at hx
    split at hx
    · rename_i B h' h1 h2
      injection hx with hx; subst hx
      simp only [AHeap.get]
      by_cases hi : i = id
      · subst hi; rw [if_pos (by simp), if_pos (by simp)]; exact h1.symm
      · rw [if_neg (by rw [Nat.beq_eq]; exact hi), fetchBlks_get h2]
        simp [Ne.symm hi]
    · cases hx
theorem fetchBlks_all {H : Nat → Option ABlk} : ∀ {l : List Nat} {h : AHeap}, fetchBlks H l = some h → ∀ id ∈ l, H id ≠ none
  | i :: is, h, hx, id, hm => by
    simp only [fetchBlks] at hx
    split at hx
    · rename_i B h' h1 h2
      rcases List.mem_cons.1 hm with rfl | hm
      · rw [h1]; simp
      · exact fetchBlks_all h2 id hm
    · cases hx
theorem memB_iff {id : Nat} : ∀ {l : List Nat}, memB id l = true ↔ id ∈ l
  | [] => by simp [memB]
  | i :: is => by
    simp only [memB, Bool.or_eq_true, Nat.beq_eq, memB_iff (l := is), List.mem_cons]
    exact ⟨fun h => h.imp (fun e => e.symm) (fun k => k), fun h => h.imp (fun e => e.symm) (fun k => k)⟩
/-- The state behind an operation. -/
def St.after (st : St) (out : Out) (dst : Option Nat) : St := match dst with | some d => (st.on out.upd).set d out.val | none => st.on out.upd
theorem Sim.after {out : Out} {dst : Option Nat} {w' : World} {φ' : Phi} {F' : Nat → Prop} {v : Value} (hs : Sim C (st.on out.upd) a w' φ' F') (hd : ∀ d, dst = some d → d < C.nt) (hv : ∀ x, out.val = some x → VR φ' F' w' x v) :
    Sim C (st.after out dst) (a.put dst v) w' φ' F' := by
  cases dst with
  | none => exact hs
  | some d => exact hs.put (hd d rfl) hv
/-- What an operation's run owes. -/
def OpDoes (P : Program) (C : Ctx) (st : St) (a : Act) (w : World) (o : Oper) (out : Out) : Prop :=
  ∀ (K : Act → World → Prop) (Q : Exit → Act → World → Prop), (∀ a' w' φ' F', Sim C (st.after out o.dst) a' w' φ' F' → K a' w') → o.wp P a w K Q
theorem opDoes_value {o : Oper} {out : Out} {s : Sem Value} {v : Value} {w' : World} {φ' : Phi} {F' : Nat → Prop} (hd : ∀ d, o.dst = some d → d < C.nt)
    (he : execOp a.eval o = (do pure (.value (← s)))) (hr : s.run P w = .ok v w') (hs : Sim C (st.on out.upd) a w' φ' F') (hv : ∀ x, out.val = some x → VR φ' F' w' x v) : OpDoes P C st a w o out := fun K Q hK => by
  unfold Oper.wp
  rw [he]
  simp only [Sem.run_bind, hr, Result.andThen_ok, Sem.run_pure, Oper.upon]
  exact hK _ _ _ _ (hs.after hd hv)
theorem opDoes_yields (h : Sim C st a w φ F) {o : Oper} {out : Out} {s : Sem Value} (hd : ∀ d, o.dst = some d → d < C.nt)
    (he : execOp a.eval o = (do pure (.value (← s)))) (hy : Yields P φ F w out s) : OpDoes P C st a w o out := by
  obtain ⟨h1, v, h2, x, h3, h4⟩ := hy
  refine opDoes_value hd he h2 (by rw [h1]; exact h) fun y hy => ?_
  rw [h3] at hy; injection hy with hy; subst hy; exact h4
theorem opDoes_makes {o : Oper} {out : Out} {s : Sem Value} (hd : ∀ d, o.dst = some d → d < C.nt)
    (he : execOp a.eval o = (do pure (.value (← s)))) (hy : Makes P C st a w out s) : OpDoes P C st a w o out := by
  obtain ⟨v, w', φ', F', h2, h3, x, h4, h5⟩ := hy
  refine opDoes_value hd he h2 h3 fun y hy => ?_
  rw [h4] at hy; injection hy with hy; subst hy; exact h5
theorem VRs_nil_right {args : List AV} (hv : VRs φ F w args []) : args = [] := by
  have := hv.length
  exact List.eq_nil_of_length_eq_zero (by simpa using this.symm)
theorem args_one {args : List AV} {vs : List Value} {u : Value} (hv : VRs φ F w args vs) (e : vs = [u]) : ∃ x, args = [x] ∧ VR φ F w x u := by
  subst e
  match args, hv.length with
  | [x], _ => exact ⟨x, rfl, hv.one⟩
theorem semMax2_sound {less : Bool} {args : List AV} {u v : Value} {out : Out} (hs : semMax2 less args = some out) (hv : VRs φ F w args [u, v]) (ts : Array Nat) (ty : Nat) :
    Yields P φ F w out (if less then Builtin.min_ ts ty #[u, v] else Builtin.max_ ts ty #[u, v]) := by
  unfold semMax2 at hs
  split at hs
  case h_2 => cases hs
  rename_i k m k' n
  split at hs
  case isFalse => cases hs
  rename_i hk
  subst hk
  obtain ⟨h1, h2⟩ := hv.two
  obtain ⟨rfl, b1⟩ := h1.int_of
  obtain ⟨rfl, b2⟩ := h2.int_of
  cases less
  · refine .mk (x := .p (.int k (max m n))) (by simpa using hs) (v := .int k (max m n)) ?_ (.mkInt ?_)
    · simp only [Bool.false_eq_true, if_false, Builtin.max_, List.foldlM_cons, List.foldlM_nil, Builtin.max2, bind_pure]
      simp only [Sem.run_pure]
      congr 2
      split <;> omega
    · rcases Int.le_total m n with h | h
      · rw [Int.max_eq_right h]; exact b2
      · rw [Int.max_eq_left h]; exact b1
  · refine .mk (x := .p (.int k (min m n))) (by simpa using hs) (v := .int k (min m n)) ?_ (.mkInt ?_)
    · simp only [if_true, Builtin.min_, List.foldlM_cons, List.foldlM_nil, Builtin.min2, bind_pure]
      simp only [Sem.run_pure]
      congr 2
      split <;> omega
    · rcases Int.le_total m n with h | h
      · rw [Int.min_eq_left h]; exact b1
      · rw [Int.min_eq_right h]; exact b2
/-- Everything but calls. -/
theorem sem_sound (h : Sim C st a w φ F) {o : Oper} {orc : Orc} {args : List AV} {hp : AHeap} {out : Out} (hd : ∀ d, o.dst = some d → d < C.nt) (hf : fetchOp st.σ o.op = some args)
    (hh : ∀ id B, hp.get id = some B → st.H id = some B) (hids : ∀ id ∈ AV.ids.idsOf args, st.H id ≠ none) (hs : sem P o orc args hp = some out) (hc : out.cond)
    (hnew : ∀ id ∈ out.new, Fresh st id ∧ C.pin id = none) (hnc : ∀ c : Call, o.op = .call c → ∀ f, c.callee ≠ .value f) : OpDoes P C st a w o out := by
  have hidx : ∀ x ∈ args, ∀ id ∈ x.ids, st.H id ≠ none := fun x hx id hi => hids id (mem_idsOf hx hi)
  have hlive : ∀ x ∈ args, Live φ x := fun x hx id hi => by
    cases hB : st.H id with
    | none => exact absurd hB (hidx x hx id hi)
    | some B => exact h.live hB
  obtain ⟨dst, op, type, pos, aft, guard⟩ := o
  unfold sem at hs
  simp only at hs hf hd hnc
  cases op <;> (try simp only at hs) <;> (try (cases hs; done))
  case move x =>
    simp only [fetchOp, Op.operands] at hf
    have hv := fetchAll_sound h hf
    obtain ⟨y, rfl, hy⟩ := args_one hv rfl
    injection hs with hs; subst hs
    exact opDoes_value hd (s := pure (a.eval x)) rfl rfl h (fun z hz => by injection hz with hz; subst hz; exact hy)
  case assign x =>
    simp only [fetchOp, Op.operands] at hf
    have hv := fetchAll_sound h hf
    obtain ⟨y, rfl, hy⟩ := args_one hv rfl
    injection hs with hs; subst hs
    exact opDoes_value hd (s := pure (a.eval x)) rfl rfl h (fun z hz => by injection hz with hz; subst hz; exact hy)
  case pick c x y =>
    simp only [fetchOp] at hf
    split at hf
    · rename_i hb
      obtain ⟨z, hz, rfl⟩ := Option.map_eq_some_iff.1 hf
      have hcv := (fetch_sound h hb).bool_of
      injection hs with hs; subst hs
      exact opDoes_value hd (s := do pure (if ← asBool (a.eval c) then a.eval x else a.eval y)) (v := a.eval x) (by simp [execOp]) (by rw [hcv]; simp [asBool]) h (fun q hq => by injection hq with hq; subst hq; exact fetch_sound h hz)
    · rename_i hb
      obtain ⟨z, hz, rfl⟩ := Option.map_eq_some_iff.1 hf
      have hcv := (fetch_sound h hb).bool_of
      injection hs with hs; subst hs
      exact opDoes_value hd (s := do pure (if ← asBool (a.eval c) then a.eval x else a.eval y)) (v := a.eval y) (by simp [execOp]) (by rw [hcv]; simp [asBool]) h (fun q hq => by injection hq with hq; subst hq; exact fetch_sound h hz)
    · cases hf
  case alloc t =>
    cases hz : zeroCells P t with
    | none => rw [hz] at hs; simp [semAlloc] at hs
    | some l =>
      rw [hz] at hs
      obtain ⟨us, h1, h2, h3⟩ := run_alloc (P := P) (φ := φ) (F := F) (w := w) hz
      obtain ⟨it, z, _, _, h4⟩ := zeroCells_run hz
      obtain ⟨φ', v, rfl, q1, q2⟩ := semAlloc_sound h hs hnew h1 h2 (fun id hi => by rw [mapM_ids h4] at hi; cases hi)
      exact opDoes_value hd rfl h3 q1 q2
  case box t x =>
    simp only [fetchOp, Op.operands] at hf
    have hv := fetchAll_sound h hf
    obtain ⟨y, rfl, hy⟩ := args_one hv rfl
    simp only at hs
    cases hl : y.cells? with
    | none => rw [hl] at hs; simp [semAlloc] at hs
    | some l =>
      rw [hl] at hs
      obtain ⟨q1, q2⟩ := VR.cells hy (hlive y (by simp)) hl
      obtain ⟨φ', v, rfl, q3, q4⟩ := semAlloc_sound h hs hnew q1 q2 (fun id hi => hidx y (by simp) id (cells?_ids hl hi))
      exact opDoes_value hd rfl (by simpa using run_box (P := P) (w := w) (t := t) (a.eval x)) q3 q4
  case build t parts =>
    simp only [fetchOp, Op.operands] at hf
    have hv := fetchAll_sound h hf
    exact opDoes_yields h hd rfl (semBuild_sound (ρ := a.eval) hs (by simpa using hv) hlive)
  case buildSlice t n parts =>
    simp only [fetchOp, Op.operands] at hf
    have hv := fetchAll_sound h hf
    exact opDoes_makes hd rfl (semBuildSlice_sound (ρ := a.eval) h hs hnew (by simpa using hv) hidx)
  case load t x =>
    simp only [fetchOp, Op.operands] at hf
    have hv := fetchAll_sound h hf
    exact opDoes_yields h hd rfl (semLoad_sound h hh hs hc hv)
  case store t x y =>
    simp only [fetchOp, Op.operands] at hf
    have hv := fetchAll_sound h hf
    split at hs
    case isFalse => cases hs
    rename_i hpos
    obtain ⟨w', h1, h2, h3⟩ := semStore_sound h hh hs hc hv hlive hpos
    intro K Q hK
    unfold Oper.wp
    simp only [execOp, Sem.run_bind, h1, Result.andThen_ok, Sem.run_pure, Oper.upon]
    exact hK _ _ _ _ (h2.after hd (fun x hx => by rw [h3] at hx; cases hx))
  case nilCheck x =>
    simp only [fetchOp, Op.operands] at hf
    have hv := fetchAll_sound h hf
    obtain ⟨y, rfl, hy⟩ := args_one hv rfl
    split at hs
    · rename_i id off e
      simp only [List.cons.injEq, and_true] at e; subst e
      obtain ⟨z, hz⟩ := hlive (.ptr id off) (by simp) id (by simp [AV.ids])
      obtain ⟨b, N, _, hval⟩ := hy z hz
      injection hs with hs; subst hs
      refine opDoes_value hd (s := pure (a.eval x)) (v := a.eval x) ?_ rfl h (fun q hq => by injection hq with hq; subst hq; exact hy)
      simp [execOp, hval]
    · rename_i cs off e
      simp only [List.cons.injEq, and_true] at e; subst e
      obtain ⟨ad, vs, hval, hr⟩ := hy
      injection hs with hs; subst hs
      refine opDoes_value hd (s := pure (a.eval x)) (v := a.eval x) ?_ rfl h (fun q hq => by injection hq with hq; subst hq; exact ⟨ad, vs, hval, hr⟩)
      simp [execOp, hval]
    · cases hs
  case binOp op t x y yt =>
    simp only [fetchOp, Op.operands] at hf
    have hv := fetchAll_sound h hf
    exact opDoes_yields h hd rfl (semBin_sound hs hc hv x y)
  case unOp op t x =>
    simp only [fetchOp, Op.operands] at hf
    have hv := fetchAll_sound h hf
    exact opDoes_yields h hd rfl (semUn_sound hs hc hv)
  case convert src dst' x =>
    simp only [fetchOp, Op.operands] at hf
    have hv := fetchAll_sound h hf
    exact opDoes_yields h hd rfl (semConvert_sound hs hc hv)
  case makeFunc fn first caps =>
    cases fn <;> simp only at hs <;> try (cases hs; done)
    rename_i f
    simp only [fetchOp, Op.operands] at hf
    have hv := fetchAll_sound h hf
    injection hs with hs; subst hs
    have hlen := hv.length
    refine opDoes_value hd (s := Instr.makeFunc (.func f) (first.map a.eval) (caps.map a.eval)) rfl rfl h (fun q hq => ?_)
    injection hq with hq; subst hq
    refine ⟨(first.map a.eval).toList, (caps.map a.eval).toList, by simp only [Array.toArray_toList], ?_, ?_⟩
    · refine VRs.mk (by simp at hlen ⊢; omega) fun j x v hx hv' => ?_
      rw [List.getElem?_take] at hx
      split at hx
      · rename_i hj
        obtain ⟨z, z1, z2⟩ := hv.get _ _ hx
        simp only [Array.toList_append, List.map_append] at z1
        rw [List.getElem?_append_left (by simpa using hj)] at z1
        simp only [Array.toList_map] at hv'
        rw [z1] at hv'; injection hv' with hv'; subst hv'; exact z2
      · cases hx
    · refine VRs.mk (by simp at hlen ⊢; omega) fun j x v hx hv' => ?_
      rw [List.getElem?_drop] at hx
      obtain ⟨z, z1, z2⟩ := hv.get _ _ hx
      simp only [Array.toList_append, List.map_append] at z1
      rw [List.getElem?_append_right (by simp)] at z1
      simp only [List.length_map, Array.length_toList, Nat.add_sub_cancel_left] at z1
      simp only [Array.toList_map] at hv'
      rw [z1] at hv'; injection hv' with hv'; subst hv'; exact z2
  case makeMap t r =>
    cases r with
    | some r => simp only at hs; cases hs
    | none =>
      simp only at hs
      exact opDoes_makes hd rfl (semMakeMap_sound h hs hnew)
  case lookup t x i ok =>
    simp only [fetchOp, Op.operands] at hf
    have hv := fetchAll_sound h hf
    exact opDoes_yields h hd rfl (semLookup_sound h hh hs hv)
  case index t x i =>
    simp only [fetchOp, Op.operands] at hf
    have hv := fetchAll_sound h hf
    exact opDoes_yields h hd rfl (semIndex_sound hs hc hv)
  case mapUpdate t m k x =>
    simp only [fetchOp, Op.operands] at hf
    have hv := fetchAll_sound h hf
    obtain ⟨w', h1, h2, h3⟩ := semMapUpdate_sound h hh hs hv
    intro K Q hK
    unfold Oper.wp
    simp only [execOp, Sem.run_bind, h1, Result.andThen_ok, Sem.run_pure, Oper.upon]
    exact hK _ _ _ _ (h2.after hd (fun x hx => by rw [h3] at hx; cases hx))
  case makeSlice t l c =>
    simp only [fetchOp, Op.operands] at hf
    have hv := fetchAll_sound h hf
    exact opDoes_makes hd rfl (semMakeSlice_sound h hs hc hnew hv)
  case slice t x lo hi mx =>
    simp only [fetchOp, Op.operands] at hf
    have hv := fetchAll_sound h hf
    refine opDoes_yields h hd rfl (semSlice_sound h (lo := lo.map a.eval) (hi := hi.map a.eval) (mx := mx.map a.eval) (by simpa using hs) hc hlive ?_)
    cases lo <;> cases hi <;> cases mx <;> simpa using hv
  case fieldAddr s x f =>
    simp only [fetchOp, Op.operands] at hf
    have hv := fetchAll_sound h hf
    exact opDoes_yields h hd rfl (semFieldAddr_sound hs hv (fun id off e => hlive (.ptr id off) (by rw [e]; simp) id (by simp [AV.ids])))
  case field s x f =>
    simp only [fetchOp, Op.operands] at hf
    have hv := fetchAll_sound h hf
    exact opDoes_yields h hd rfl (semField_sound hs hv)
  case indexAddr t x i =>
    simp only [fetchOp, Op.operands] at hf
    have hv := fetchAll_sound h hf
    exact opDoes_yields h hd rfl (semIndexAddr_sound hs hc hv (fun x id hx hi => hlive x (List.mem_of_mem_head? hx) id hi))
  case extract x i =>
    simp only [fetchOp, Op.operands] at hf
    have hv := fetchAll_sound h hf
    obtain ⟨y, rfl, hy⟩ := args_one hv rfl
    split at hs
    case h_2 => cases hs
    rename_i vs e
    simp only [List.cons.injEq, and_true] at e; subst e
    obtain ⟨us, hval, h1⟩ := hy
    split at hs
    · rename_i z hz
      injection hs with hs; subst hs
      obtain ⟨u, h2, h3⟩ := h1.get i z hz
      refine opDoes_value hd (s := Instr.extract (a.eval x) i) (v := u) rfl (by simp [Instr.extract, hval, h2]) h (fun q hq => by injection hq with hq; subst hq; exact h3)
    · cases hs
  case call c =>
    obtain ⟨callee, cargs, ctypes⟩ := c
    simp only at hs
    cases callee with
    | value f => exact absurd rfl (hnc _ rfl f)
    | invoke r m => cases hs
    | builtin b =>
      simp only [fetchOp, Op.operands, Call.operands] at hf
      have hv := fetchAll_sound h hf
      simp only [Array.empty_append] at hv
      have he : ∀ (s : Array Value → Sem Value), (∀ args consts, builtin b ctypes type consts args = (do pure (.value (← s args)))) →
          execOp a.eval ⟨dst, .call ⟨.builtin b, cargs, ctypes⟩, type, pos, aft, guard⟩ = (do pure (.value (← s (cargs.map a.eval)))) := fun s hb => by
        simp [execOp, resolve, invoke, hb]
      cases b <;> simp only at hs <;> try (cases hs; done)
      case delete =>
        split at hs
        case h_2 => cases hs
        rename_i t k ht
        obtain rfl : ctypes = #[t, k] := by apply Array.ext'; simpa using ht
        obtain ⟨u, v, rfl⟩ : ∃ u v, cargs = #[u, v] := by
          have hl := hv.length
          unfold semDelete at hs
          split at hs
          · simp at hl
            obtain ⟨l⟩ := cargs
            match l, hl with
            | [u, v], _ => exact ⟨u, v, rfl⟩
          · cases hs
        exact opDoes_makes hd (he (Builtin.delete_ #[t, k] type) (fun _ _ => rfl)) (by simpa using semDelete_sound (u := a.eval u) (v := a.eval v) h hh hs (by simpa using hv))
      case len =>
        split at hs
        · rename_i t ht
          obtain rfl : ctypes = #[t] := by apply Array.ext'; simpa using ht
          have hl := hv.length
          cases hcl : cargs.toList with
          | nil => rw [hcl] at hv; rw [VRs_nil_right hv] at hs; simp [semLen] at hs
          | cons u us =>
            cases us with
            | nil =>
              obtain rfl : cargs = #[u] := by apply Array.ext'; simpa using hcl
              exact opDoes_yields h hd (he (Builtin.len_ #[t] type) (fun _ _ => rfl)) (by simpa using semLen_sound (u := a.eval u) h hh hs (by simpa using hv) type)
            | cons u' us => rw [hcl] at hl; simp at hl; match args, hl with | _ :: _ :: _, _ => simp [semLen] at hs
        · cases hs
      case append =>
        obtain ⟨u, v, rfl⟩ : ∃ u v, cargs = #[u, v] := by
          have hl := hv.length
          unfold semAppend at hs
          split at hs
          · simp at hl
            obtain ⟨l⟩ := cargs
            match l, hl with
            | [u, v], _ => exact ⟨u, v, rfl⟩
          · cases hs
        exact opDoes_makes hd (he (Builtin.append_ ctypes type) (fun _ _ => rfl)) (by simpa using semAppend_sound (u := a.eval u) (v := a.eval v) h hh hs hc hnew (by simpa using hv) type)
      case max =>
        obtain ⟨u, v, rfl⟩ : ∃ u v, cargs = #[u, v] := by
          have hl := hv.length
          unfold semMax2 at hs
          split at hs
          · simp at hl
            obtain ⟨l⟩ := cargs
            match l, hl with
            | [u, v], _ => exact ⟨u, v, rfl⟩
          · cases hs
        exact opDoes_yields h hd (he (Builtin.max_ ctypes type) (fun _ _ => rfl)) (by simpa using semMax2_sound (u := a.eval u) (v := a.eval v) hs (by simpa using hv) ctypes type)
      case min =>
        obtain ⟨u, v, rfl⟩ : ∃ u v, cargs = #[u, v] := by
          have hl := hv.length
          unfold semMax2 at hs
          split at hs
          · simp at hl
            obtain ⟨l⟩ := cargs
            match l, hl with
            | [u, v], _ => exact ⟨u, v, rfl⟩
          · cases hs
        exact opDoes_yields h hd (he (Builtin.min_ ctypes type) (fun _ _ => rfl)) (by simpa using semMax2_sound (u := a.eval u) (v := a.eval v) hs (by simpa using hv) ctypes type)
end
end Go.AM
end
section
namespace Go.AM
open Go Go.RowKit
section
variable {P : Program} {C : Ctx} {st : St} {a : Act} {w : World} {φ : Phi} {F : Nat → Prop}
theorem run_callFunc {f : Nat} (hf : Callable P f) (args : Array Value) (w : World) : (callFunc f args).run P w = .ok (.enter f args) w := by
  obtain ⟨fn, h1, h2, h3⟩ := hf
  have h4 : ¬ fn.name = "runtime.NumGoroutine" := by simpa using h3
  have h5 : ¬ fn.body = none := fun e => by rw [e] at h2; cases h2
  simp [callFunc, h1, h4, h5]
theorem told_upd {op : Op} {r : Option AV} {out : Out} : (told op r out).upd = out.upd ∧ (told op r out).new = out.new := by
  unfold told
  split <;> exact ⟨rfl, rfl⟩
theorem told_cond {op : Op} {r : Option AV} {out : Out} (h : (told op r out).cond) : out.cond ∧ (told op r out).val = out.val := by
  unfold told at h ⊢
  split at h
  · exact ⟨h, rfl⟩
  · exact ⟨h, rfl⟩
  · exact ⟨h, rfl⟩
  · exact ⟨h, rfl⟩
  · rename_i x _ _ _ _
    exact ⟨h.1, h.2.symm⟩
  · exact ⟨h, rfl⟩
theorem keys_get : ∀ {h : AHeap} {id : Nat}, id ∈ h.map (·.1) → h.get id ≠ none
  | (i, B) :: h, id, hm => by
    simp only [AHeap.get]
    by_cases hi : i = id
    · rw [if_pos (by rw [Nat.beq_eq]; exact hi)]; simp
    · rw [if_neg (by rw [Nat.beq_eq]; exact hi)]
      simp only [List.map_cons, List.mem_cons] at hm
      rcases hm with hm | hm
      · exact absurd hm.symm hi
      · exact keys_get hm
theorem get_mem : ∀ {h : AHeap} {id : Nat} {B : ABlk}, h.get id = some B → ∃ x ∈ h, x.2 = B
  | (i, B') :: h, id, B, hg => by
    simp only [AHeap.get] at hg
    split at hg
    · injection hg with hg; exact ⟨_, List.mem_cons_self, hg⟩
    · obtain ⟨x, hx, hxe⟩ := get_mem hg
      exact ⟨x, List.mem_cons_of_mem _ hx, hxe⟩
theorem semCall_sound (h : Sim C st a w φ F) {dst : Option Nat} {f : Operand} {cargs : Array Operand} {cts : Array TypeId} {type : TypeId} {pos : String} {aft : Array Edge} {guard : Option (Nat × Bool)} {orc : Orc} {g : Nat} {first caps args : List AV} {hp : AHeap} {out : Out}
    (hd : ∀ d, dst = some d → d < C.nt) (hv : VRs φ F w (.fn g first caps :: args) (a.eval f :: cargs.toList.map a.eval))
    (hhp : fetchBlks st.H orc.fp = some hp) (hs : semCall P g (first ++ args ++ caps) orc hp = some out) (hc : out.cond)
    (hnew : ∀ id ∈ out.new, Fresh st id ∧ C.pin id = none) : OpDoes P C st a w ⟨dst, .call ⟨.value f, cargs, cts⟩, type, pos, aft, guard⟩ out := by
  unfold semCall at hs
  split at hs
  · cases hs
  rename_i res hres
  simp only at hs
  split at hs
  case isFalse => cases hs
  rename_i hcond
  simp only [Bool.and_eq_true, decide_eq_true_eq, List.all_eq_true] at hcond
  obtain ⟨⟨hnd, hri⟩, hpi⟩ := hcond
  injection hs with hs; subst hs
  rw [VRs] at hv
  obtain ⟨u, r, e, h1, h2⟩ := hv
  simp only [List.cons.injEq] at e
  obtain ⟨rfl, rfl⟩ := e
  obtain ⟨us, ws, hval, h3, h4⟩ := h1
  have hargs := VRs.pur _ ((h3.append h2).append h4)
  have hspec : ASpec P g (AV.purL (first ++ args ++ caps)) hp res orc.post := hc
  have hcall := call_sound h hargs hspec (fetchBlks_get hhp) (fetchBlks_all hhp) hnd (fun id hid hni => hnew id (by
    rw [List.mem_filter]
    cases hg : orc.post.get id with
    | none => exact absurd hg hid
    | some B =>
      refine ⟨get_keys hg, ?_⟩
      have : memB id orc.fp = false := by
        cases hm : memB id orc.fp
        · rfl
        · exact absurd (memB_iff.1 hm) hni
      simp [this])) (fun id hid => by
    have := memB_iff.1 (hri id hid)
    rw [List.mem_append] at this
    refine this.imp (fun k => k) fun hk => ?_
    exact keys_get hk) (fun id B hB i hi => by
    obtain ⟨x, hx, hxe⟩ := get_mem hB
    have := hpi x hx i (by rw [hxe]; exact hi)
    have := memB_iff.1 this
    rw [List.mem_append] at this
    refine this.imp (fun k => k) fun hk => keys_get hk)
  intro K Q hK
  unfold Oper.wp
  have he : (execOp a.eval ⟨dst, .call ⟨.value f, cargs, cts⟩, type, pos, aft, guard⟩).run P w = .ok (.enter g (us ++ cargs.toList.map a.eval ++ ws).toArray) w := by
    simp only [execOp, resolve, hval, Deferred.ofValue, pure_bind, invoke]
    rw [run_callFunc hspec.1]
    simp
  rw [he]
  simp only [Oper.upon]
  refine hcall.mono fun e w' ⟨v, φ', F', he, hs, hv⟩ => ?_
  subst he
  exact hK _ _ _ _ (Sim.after (out := ⟨some res, callUpd orc.fp orc.post, _, _⟩) hs hd (fun x hx => by injection hx with hx; subst hx; exact hv))
theorem OpDoes.told {o : Oper} {r : Option AV} {out : Out} (h : (told o.op r out).cond → OpDoes P C st a w o out) (hc : (told o.op r out).cond) : OpDoes P C st a w o (told o.op r out) := by
  obtain ⟨_, h2⟩ := told_cond hc
  have h3 := (told_upd (op := o.op) (r := r) (out := out)).1
  intro K Q hK
  refine h hc K Q fun a' w' φ' F' hs => hK a' w' φ' F' ?_
  unfold St.after at hs ⊢
  rw [h2, h3]
  exact hs
theorem step_sound (h : Sim C st a w φ F) {o : Oper} {orc : Orc} {out : Out} (hd : ∀ d, o.dst = some d → d < C.nt) (hs : stepOut P o orc st.σ st.H = some out) (hc : out.cond)
    (hnew : ∀ id ∈ out.new, Fresh st id ∧ C.pin id = none) : OpDoes P C st a w o out := by
  unfold stepOut at hs
  split at hs
  · cases hs
  rename_i args hf
  split at hs
  case h_2 => cases hs
  rename_i hp hpf h1 h2
  obtain ⟨out0, hs0, rfl⟩ := Option.map_eq_some_iff.1 hs
  have hc0 := told_cond hc
  have hnew0 : ∀ id ∈ out0.new, Fresh st id ∧ C.pin id = none := fun id hi => hnew id (by rw [told_upd.2]; exact hi)
  refine OpDoes.told (fun _ => ?_) hc
  by_cases hcall : ∃ c f, o.op = .call c ∧ c.callee = .value f
  · obtain ⟨c, f, hop, hcf⟩ := hcall
    obtain ⟨dst, op, type, pos, aft, guard⟩ := o
    simp only at hop; subst hop
    obtain ⟨callee, cargs, cts⟩ := c
    simp only at hcf; subst hcf
    simp only [sem, callsValue, if_true] at hs0
    split at hs0
    · rename_i g first caps args'
      simp only [fetchOp, Op.operands, Call.operands] at hf
      have hv := fetchAll_sound h hf
      exact semCall_sound h hd (by simpa using hv) h2 hs0 hc0.1 hnew0
    · cases hs0
  · have hm : callsValue o.op = false := by
      unfold callsValue
      split
      · rename_i f _ _ hop
        exact absurd ⟨_, f, hop, rfl⟩ hcall
      · rfl
    rw [hm] at hs0
    simp only [Bool.false_eq_true, if_false] at hs0
    exact sem_sound h hd hf (fun id B hB => by
      rw [fetchBlks_get h1] at hB
      split at hB
      · exact hB
      · cases hB) (fetchBlks_all h1) hs0 hc0.1 hnew0 (fun c hop f hcf => hcall ⟨c, f, hop, hcf⟩)
end
end Go.AM
end
