/- Addresses, loads, lengths, cuts: operations that read. -/
import Derived.Test.YtijdlphadhpabaaA1
import Derived.Great.BuildSlice
section
namespace Go.AM
open Go Go.RowKit
section
variable {P : Program} {C : Ctx} {st : St} {a : Act} {w : World} {φ : Phi} {F : Nat → Prop}
theorem run_isAgg {t : Nat} {b : Bool} (h : aggT P t = some b) (w : World) : (isAgg t).run P w = .ok b w := by
  unfold aggT at h
  split at h
  · rename_i hu; injection h with h; subst h; simp [isAgg, run_underlying hu]
  · rename_i hu; injection h with h; subst h; simp [isAgg, run_underlying hu]
  · rename_i d h1 h2 hu
    injection h with h; subst h
    simp only [isAgg, Sem.run_bind, run_underlying hu, Result.andThen_ok]
    rfl
  · cases h
theorem info_of_cells {t : Nat} (h : 0 < P.cellsOf t) : ∃ i, P.info? t = some i ∧ i.size = P.cellsOf t := by
  unfold Program.cellsOf at h ⊢
  cases hi : P.info? t with
  | none => simp [hi] at h
  | some i => exact ⟨i, rfl, by simp⟩
theorem run_sizeOf {t : Nat} (h : 0 < P.cellsOf t) (w : World) : (sizeOf t).run P w = .ok (P.cellsOf t) w := by
  obtain ⟨i, hi, he⟩ := info_of_cells h
  simp [sizeOf, typeInfo, hi, he]
theorem run_loadVar_agg {t : Nat} (h : aggT P t = some true) (hp : 0 < P.cellsOf t) {ad : Addr} {us : List Value} (hl : us.length = P.cellsOf t)
    (hc : ∀ (j : Nat) (v : Value), us[j]? = some v → w.cell? (ad.add j) = some v) : (loadVar t ad).run P w = .ok (.agg us.toArray) w := by
  have := run_loadCells_list (P := P) w ad us hc
  rw [hl] at this
  simp [loadVar, run_isAgg h, run_sizeOf hp, this]
theorem run_loadVar_one {t : Nat} (h : aggT P t = some false) {ad : Addr} {v : Value} (hc : w.cell? ad = some v) : (loadVar t ad).run P w = .ok v w := by
  simp [loadVar, run_isAgg h, hc]
/-- Cells that are there one by one, as a list. -/
theorem cells_list {R : Nat → Value → Prop} (n : Nat) (h : ∀ j, j < n → ∃ v, R j v) : ∃ us : List Value, us.length = n ∧ ∀ (j : Nat) (v : Value), us[j]? = some v → R j v := by
  induction n with
  | zero => exact ⟨[], rfl, by simp⟩
  | succ n ih =>
    obtain ⟨us, hl, hu⟩ := ih fun j hj => h j (by omega)
    obtain ⟨v, hv⟩ := h n (by omega)
    refine ⟨us ++ [v], by simp [hl], fun j x hx => ?_⟩
    by_cases hj : j < us.length
    · rw [List.getElem?_append_left hj] at hx; exact hu j x hx
    · rw [List.getElem?_append_right (by omega)] at hx
      have : j = n := by
        have := (List.getElem?_eq_some_iff.1 hx).1
        simp at this; omega
      subst this
      simp [hl] at hx
      subst hx
      exact hv
/-- What a row says of its cells. -/
theorem rowHas_get : ∀ {l : List AV} {cs : List PV} {off : Nat}, rowHas cs off l → ∀ (j : Nat) (x : AV), l[j]? = some x → ∃ p, x = .p p ∧ cs[off + j]? = some p
  | [], _, _, _, _, _, hx => by simp at hx
  | .p v :: r, cs, off, h, j, x, hx => by
    simp only [rowHas] at h
    match j with
    | 0 => simp at hx; subst hx; exact ⟨v, rfl, h.1⟩
    | j + 1 =>
      obtain ⟨p, h1, h2⟩ := rowHas_get h.2 j x (by simpa using hx)
      exact ⟨p, h1, by rw [← h2]; congr 1; omega⟩
  | .agg _ :: _, _, _, h, _, _, _ => by simp [rowHas] at h
  | .tup _ :: _, _, _, h, _, _, _ => by simp [rowHas] at h
  | .ptr _ _ :: _, _, _, h, _, _, _ => by simp [rowHas] at h
  | .rp _ _ :: _, _, _, h, _, _, _ => by simp [rowHas] at h
  | .own _ _ _ _ :: _, _, _, h, _, _, _ => by simp [rowHas] at h
  | .nils :: _, _, _, h, _, _, _ => by simp [rowHas] at h
  | .map _ :: _, _, _, h, _, _, _ => by simp [rowHas] at h
  | .fn _ _ _ :: _, _, _, h, _, _, _ => by simp [rowHas] at h
theorem semLoadRow_sound {t : Nat} {r : Option AV} {cs : List PV} {off : Nat} {ad : Addr} {out : Out} (hs : semLoadRow P t r cs off = some out) (hc : out.cond)
    (hcell : ∀ (j : Nat) (p : PV), cs[j]? = some p → ∃ v, w.cell? (ad.add j) = some v ∧ RV w F v p) : Yields P φ F w out (loadVar t (ad.add off)) := by
  unfold semLoadRow at hs
  split at hs
  · rename_i l ha
    split at hs
    case isFalse => cases hs
    rename_i hl
    injection hs with hs; subst hs
    have hh : rowHas cs off l := hc
    obtain ⟨us, hul, hu⟩ := cells_list (R := fun j v => w.cell? ((ad.add off).add j) = some v ∧ (∀ x, l[j]? = some x → VR φ F w x v) ∧ v.oneCell' = true) l.length fun j hj => by
      obtain ⟨p, hx, hp⟩ := rowHas_get hh j _ (List.getElem?_eq_getElem hj)
      obtain ⟨v, h1, h2⟩ := hcell _ _ hp
      refine ⟨v, by rw [add_add]; exact h1, fun x hx' => ?_, h2.oneCell⟩
      rw [List.getElem?_eq_getElem hj] at hx'
      injection hx' with hx'
      rw [← hx', hx]
      exact h2
    refine ⟨rfl, _, run_loadVar_agg ha (by omega) (by omega) fun j v hv => (hu j v hv).1, _, rfl, us, rfl, VRs.mk hul fun j x v hx hv => (hu j v hv).2.1 x hx, fun v hv => ?_⟩
    obtain ⟨j, hj⟩ := List.getElem?_of_mem hv
    exact (hu j v hj).2.2
  · rename_i p ha
    injection hs with hs; subst hs
    obtain ⟨v, h1, h2⟩ := hcell _ _ (show cs[off]? = some p from hc)
    exact ⟨rfl, v, run_loadVar_one ha h1, _, rfl, h2⟩
  · cases hs
theorem Sim.own_at (h : Sim C st a w φ F) {id : Nat} {B : ABlk} (hB : st.H id = some B) {b : Nat} {N : Sz} (hφ : φ id = some (some (b, N))) : BR φ F w b N B ∧ ¬ F b ∧ (C.G b ∨ C.w0.heap.size ≤ b) := by
  obtain ⟨x, hx, hs⟩ := h.own id B hB
  rw [hφ] at hx; injection hx with hx; subst hx
  exact hs
theorem Sim.live (h : Sim C st a w φ F) {id : Nat} {B : ABlk} (hB : st.H id = some B) : ∃ x, φ id = some x := by
  obtain ⟨x, hx, _⟩ := h.own id B hB
  exact ⟨x, hx⟩
theorem cell_blk {b : Nat} {cur : Array Value} {ty : TypeId} {fr : Nat × Nat} (h : w.heap[b]? = some (.cells cur ty fr)) (j : Nat) : w.cell? ⟨b, j, none⟩ = cur[j]? := cell_of_row w b j cur ty fr h
theorem add_lit (b o j : Nat) : (⟨b, o, none⟩ : Addr).add j = ⟨b, o + j, none⟩ := Addr.add_lit b o j
theorem semLoad_sound (h : Sim C st a w φ F) {t : Nat} {r : Option AV} {hp : AHeap} (hh : ∀ id B, hp.get id = some B → st.H id = some B) {args : List AV} {u : Value} {out : Out}
    (hs : semLoad P t r hp args = some out) (hc : out.cond) (hv : VRs φ F w args [u]) : Yields P φ F w out (Instr.loadAt t u) := by
  match args, hv with
  | [], hv => rw [VRs] at hv; cases hv
  | _ :: _ :: _, hv => have := hv.length; simp at this
  | [x], hv =>
    rw [VRs] at hv
    obtain ⟨_, _, e, h1, hv⟩ := hv
    rw [VRs] at hv; subst hv
    simp only [List.cons.injEq, and_true] at e
    subst e
    unfold semLoad at hs
    split at hs
    · rename_i id off he
      simp only [List.cons.injEq, and_true] at he; subst he
      rw [VR] at h1
      split at hs
      · rename_i ty cs hg
        obtain ⟨y, hy⟩ := h.live (hh _ _ hg)
        obtain ⟨b, N, rfl, rfl⟩ := h1 y hy
        obtain ⟨⟨cur, hcur, hN, hlen, hat⟩, _⟩ := h.own_at (hh _ _ hg) hy
        simp only [Instr.loadAt, Instr.sureAddr, pure_bind]
        split at hs
        · rename_i ha
          split at hs
          case isFalse => cases hs
          rename_i hl
          obtain ⟨us, hul, hu⟩ := cells_list (R := fun j v => cur[off + j]? = some v ∧ (∀ x, cs[off + j]? = some x → VR φ F w x v) ∧ v.oneCell' = true) (P.cellsOf t) fun j hj => by
            obtain ⟨v, h2, h3, h4⟩ := hat (off + j) _ (List.getElem?_eq_getElem (by omega))
            refine ⟨v, h2, fun x hx => ?_, h4⟩
            rw [List.getElem?_eq_getElem (by omega)] at hx
            injection hx with hx; subst hx; exact h3
          refine .mk hs (run_loadVar_agg ha (by omega) hul fun j v hv => ?_) ⟨us, rfl, VRs.mk (by simp [hul]; omega) fun j x v hx hv => (hu j v hv).2.1 x ?_, fun v hv => ?_⟩
          · rw [add_lit, cell_blk hcur]; exact (hu j v hv).1
          · rw [List.getElem?_take] at hx
            split at hx
            · rw [List.getElem?_drop] at hx; exact hx
            · cases hx
          · obtain ⟨j, hj⟩ := List.getElem?_of_mem hv
            exact (hu j v hj).2.2
        · rename_i ha
          split at hs
          · rename_i x hx
            obtain ⟨v, h2, h3, _⟩ := hat off x hx
            exact .mk hs (run_loadVar_one ha (by rw [cell_blk hcur]; exact h2)) h3
          · cases hs
        · cases hs
      · rename_i ty cs hg
        obtain ⟨y, hy⟩ := h.live (hh _ _ hg)
        obtain ⟨b, N, rfl, rfl⟩ := h1 y hy
        obtain ⟨⟨cur, hcur, hN, hlen, hat⟩, _⟩ := h.own_at (hh _ _ hg) hy
        have := semLoadRow_sound (φ := φ) (F := F) (ad := ⟨b, 0, none⟩) hs hc fun j p hp => by
          obtain ⟨v, h2, h3⟩ := hat j p hp
          exact ⟨v, by rw [add_lit, cell_blk hcur, Nat.zero_add]; exact h2, h3⟩
        rw [add_lit, Nat.zero_add] at this
        simpa only [Instr.loadAt, Instr.sureAddr, pure_bind] using this
      · cases hs
    · rename_i cs off he
      simp only [List.cons.injEq, and_true] at he; subst he
      rw [VR] at h1
      obtain ⟨ad, vs, rfl, _, hat⟩ := h1
      have := semLoadRow_sound (φ := φ) (F := F) (ad := ad) hs hc fun j p hp => ⟨vs j, hat j p hp⟩
      simpa only [Instr.loadAt, Instr.sureAddr, pure_bind] using this
    · cases hs
theorem fieldOf_run {s f o t : Nat} (hf : fieldOf P s f = some (o, t)) : ∃ fs x, P.underlying s = some (.struct fs) ∧ fs[f]? = some x ∧ x.offset = o ∧ x.type = t ∧ 0 < P.cellsOf t := by
  unfold fieldOf at hf
  split at hf
  · rename_i fs hu
    split at hf
    · rename_i x hx
      split at hf
      · rename_i i hi
        split at hf
        · cases hf
        · injection hf with hf
          rw [Prod.mk.injEq] at hf
          obtain ⟨rfl, rfl⟩ := hf
          exact ⟨fs, x, hu, hx, rfl, rfl, by simp [Program.cellsOf, hi]; omega⟩
      · cases hf
    · cases hf
  · cases hf
theorem run_fieldAt {s f o t : Nat} (hf : fieldOf P s f = some (o, t)) (ad : Addr) (w : World) : (Instr.fieldAt s (.pointer (some ad)) f).run P w = .ok (.pointer (some (ad.add o))) w := by
  obtain ⟨fs, x, hu, hx, rfl, rfl, hp⟩ := fieldOf_run hf
  have hne : P.cellsOf x.type ≠ 0 := by omega
  simp [Instr.fieldAt, run_underlying hu, hx, Instr.sureAddr, fieldPlace, run_sizeOf hp, hne]
theorem VRs.one {x : AV} {u : Value} (h : VRs φ F w [x] [u]) : VR φ F w x u := by
  rw [VRs] at h
  obtain ⟨_, _, e, h1, hv⟩ := h
  rw [VRs] at hv; subst hv
  simp only [List.cons.injEq, and_true] at e
  subst e; exact h1
theorem VRs.two {x y : AV} {u v : Value} (h : VRs φ F w [x, y] [u, v]) : VR φ F w x u ∧ VR φ F w y v := by
  rw [VRs] at h
  obtain ⟨_, _, e, h1, hv⟩ := h
  simp only [List.cons.injEq] at e
  obtain ⟨rfl, rfl⟩ := e
  exact ⟨h1, hv.one⟩
theorem VRs.three {x y z : AV} {u v t : Value} (h : VRs φ F w [x, y, z] [u, v, t]) : VR φ F w x u ∧ VR φ F w y v ∧ VR φ F w z t := by
  rw [VRs] at h
  obtain ⟨_, _, e, h1, hv⟩ := h
  simp only [List.cons.injEq] at e
  obtain ⟨rfl, rfl⟩ := e
  exact ⟨h1, hv.two⟩
theorem semFieldAddr_sound {s f : Nat} {args : List AV} {u : Value} {out : Out} (hs : semFieldAddr P s f args = some out) (hv : VRs φ F w args [u])
    (hlive : ∀ id off, args = [.ptr id off] → ∃ x, φ id = some x) : Yields P φ F w out (Instr.fieldAt s u f) := by
  unfold semFieldAddr at hs
  split at hs
  · rename_i id off
    have h1 := hv.one
    obtain ⟨x, hx⟩ := hlive id off rfl
    obtain ⟨b, N, rfl, rfl⟩ := h1 x hx
    split at hs
    · rename_i o t hf
      refine .mk hs (run_fieldAt hf _ w) fun y hy => ?_
      rw [hx] at hy; injection hy with hy; subst hy
      exact ⟨b, N, rfl, by rw [add_lit]⟩
    · cases hs
  · rename_i cs off
    have h1 := hv.one
    obtain ⟨ad, vs, rfl, h2, h3⟩ := h1
    split at hs
    · rename_i o t hf
      exact .mk hs (run_fieldAt hf _ w) ⟨ad, vs, by rw [add_add], h2, h3⟩
    · cases hs
  · cases hs
theorem sliceOf_run {t e : Nat} {k : TypeInfo} (h : sliceOf P t = some (e, k)) : P.underlying t = some (.slice e) ∧ P.info? e = some k := by
  unfold sliceOf at h
  split at h
  · rename_i e' hu
    split at h
    · rename_i i hi
      injection h with h
      rw [Prod.mk.injEq] at h
      obtain ⟨rfl, rfl⟩ := h
      exact ⟨hu, hi⟩
    · cases h
  · cases h
theorem arrayOf_run {t n e s : Nat} (h : arrayOf P t = some (n, e, s)) : ∃ k, P.underlying t = some (.array n e) ∧ P.info? e = some k ∧ k.size = s := by
  unfold arrayOf at h
  split at h
  · rename_i n' e' hu
    split at h
    · rename_i i hi
      injection h with h
      simp only [Prod.mk.injEq] at h
      obtain ⟨rfl, rfl, rfl⟩ := h
      exact ⟨i, hu, hi, rfl⟩
    · cases h
  · cases h
theorem run_indexAt_s {t e : Nat} {k : TypeInfo} (hk : sliceOf P t = some (e, k)) (ad : Addr) (n c : Nat) (ik : IntKind) (i : Int) (h : 0 ≤ i ∧ i < n) (w : World) :
    (Instr.indexAt t (.slice (some ad) n c) (.int ik i)).run P w = .ok (.pointer (some (ad.add (i.toNat * k.size)))) w := by
  obtain ⟨hu, hi⟩ := sliceOf_run hk
  simp [Instr.indexAt, asIntOf, run_underlying hu, h, sizeOf, typeInfo, hi]
theorem run_indexAt_a {t e n s : Nat} (hk : arrayOf P t = some (n, e, s)) (ad : Addr) (ik : IntKind) (i : Int) (h : 0 ≤ i ∧ i < n) (w : World) :
    (Instr.indexAt t (.pointer (some ad)) (.int ik i)).run P w = .ok (.pointer (some (ad.add (i.toNat * s)))) w := by
  obtain ⟨k, hu, hi, rfl⟩ := arrayOf_run hk
  simp [Instr.indexAt, asIntOf, run_underlying hu, h, sizeOf, typeInfo, hi, Instr.sureAddr]
theorem semIndexAddr_sound {t : Nat} {args : List AV} {u v : Value} {out : Out} (hs : semIndexAddr P t args = some out) (hc : out.cond) (hv : VRs φ F w args [u, v])
    (hlive : ∀ x id, args.head? = some x → id ∈ x.ids → ∃ y, φ id = some y) : Yields P φ F w out (Instr.indexAt t u v) := by
  unfold semIndexAddr at hs
  split at hs
  · rename_i cs n k i
    obtain ⟨h1, h2⟩ := hv.two
    obtain ⟨rfl, _⟩ := h2.int_of
    split at hs
    · rename_i e kk hk
      injection hs with hs; subst hs
      have hb : 0 ≤ i ∧ i < n := hc
      cases h1 with
      | sl vs hn hc' hz ha hr =>
        rename_i ad c
        cases ad with
        | none => have := hz rfl; omega
        | some ad =>
          refine ⟨rfl, _, run_indexAt_s hk ad n c k i hb w, _, rfl, ad, vs, rfl, fun hne => ?_, fun j p hp => ?_⟩
          · obtain ⟨_, e, hF, _⟩ := ha hne
            injection e with e; subst e; exact hF
          · obtain ⟨_, e, hF, hcell⟩ := ha (by rintro rfl; simp at hp)
            injection e with e; subst e
            exact ⟨hcell j (List.getElem?_eq_some_iff.1 hp).1, hr j p hp⟩
    · cases hs
  · rename_i id off n sz k i
    obtain ⟨h1, h2⟩ := hv.two
    obtain ⟨rfl, _⟩ := h2.int_of
    obtain ⟨x, hx⟩ := hlive _ id rfl (by simp [AV.ids])
    split at hs
    · rename_i e kk hk
      split at hs
      case isFalse => cases hs
      rename_i hsz
      injection hs with hs; subst hs
      have hb : 0 ≤ i ∧ i < n := hc
      rcases h1 x hx with ⟨_, _, rfl, _⟩ | ⟨b, N, c, rfl, rfl, _⟩
      · omega
      · refine ⟨rfl, _, run_indexAt_s hk _ n c k i hb w, _, rfl, fun y hy => ?_⟩
        rw [hx] at hy; injection hy with hy; subst hy
        exact ⟨b, N, rfl, by rw [add_lit, hsz]⟩
    · cases hs
  · rename_i id off k i
    obtain ⟨h1, h2⟩ := hv.two
    obtain ⟨rfl, _⟩ := h2.int_of
    obtain ⟨x, hx⟩ := hlive _ id rfl (by simp [AV.ids])
    obtain ⟨b, N, rfl, rfl⟩ := h1 x hx
    split at hs
    · rename_i n e sz hk
      injection hs with hs; subst hs
      have hb : 0 ≤ i ∧ i < n := hc
      refine ⟨rfl, _, run_indexAt_a hk _ k i hb w, _, rfl, fun y hy => ?_⟩
      rw [hx] at hy; injection hy with hy; subst hy
      exact ⟨b, N, rfl, by rw [add_lit]⟩
    · cases hs
  · cases hs
theorem semUn_sound {op : UnOp} {args : List AV} {u : Value} {out : Out} (hs : semUn op args = some out) (hc : out.cond) (hv : VRs φ F w args [u]) : Yields P φ F w out (Op.unary op u) := by
  unfold semUn at hs
  split at hs
  · obtain rfl := hv.one.bool_of
    split at hs
    · exact .mk hs (by simp [Op.unary]) (.mkBool _)
    · cases hs
  · obtain ⟨rfl, _⟩ := hv.one.int_of
    split at hs
    · injection hs with hs; subst hs
      have e := InR.wrap hc
      exact ⟨rfl, _, by simp only [Op.unary, Op.intArith, e]; rfl, _, rfl, .mkInt hc⟩
    · cases hs
  · cases hs
theorem semConvert_sound {src dst : Nat} {args : List AV} {u : Value} {out : Out} (hs : semConvert P src dst args = some out) (hc : out.cond) (hv : VRs φ F w args [u]) : Yields P φ F w out (convert src dst u) := by
  unfold semConvert at hs
  split at hs
  · obtain ⟨rfl, _⟩ := hv.one.int_of
    split at hs
    · rename_i d k h1 h2
      injection hs with hs; subst hs
      exact ⟨rfl, _, by simp [convert, run_underlying h1, run_underlying h2, Conv.intToInt, InR.wrap hc], _, rfl, .mkInt hc⟩
    · cases hs
  · have h1 := hv.one
    obtain ⟨rfl, _⟩ := h1.str_of
    split at hs
    · rename_i h2 h3
      exact .mk hs (by simp [convert, run_underlying h2, run_underlying h3]) h1
    · cases hs
  · cases hs
end
end Go.AM
end
section
namespace Go.AM
open Go Go.RowKit
theorem setL_length {α : Type} : ∀ (l : List α) (cs : List α) (off : Nat), (setL cs off l).length = cs.length
  | [], _, _ => rfl
  | _ :: r, cs, off => by rw [setL, setL_length r]; simp
theorem setL_get {α : Type} : ∀ (l : List α) (cs : List α) (off : Nat), off + l.length ≤ cs.length → ∀ j : Nat, (setL cs off l)[j]? = if off ≤ j ∧ j < off + l.length then l[j - off]? else cs[j]?
  | [], cs, off, _, j => by simp only [setL, List.length_nil, Nat.add_zero]; rw [if_neg (by omega)]
  | v :: r, cs, off, h, j => by
    simp only [List.length_cons] at h
    rw [setL, setL_get r _ _ (by simp; omega)]
    by_cases h1 : off + 1 ≤ j ∧ j < off + 1 + r.length
    · rw [if_pos h1, if_pos (by simp; omega)]
      obtain ⟨k, rfl⟩ : ∃ k, j = off + (k + 1) := ⟨j - off - 1, by omega⟩
      rw [show off + (k + 1) - off = k + 1 by omega, show off + (k + 1) - (off + 1) = k by omega]
      simp
    · rw [if_neg h1]
      by_cases h2 : j = off
      · subst h2
        rw [if_pos (by simp)]
        simp only [Nat.sub_self, List.getElem?_cons_zero]
        rw [List.getElem?_set_self (by omega)]
      · rw [if_neg (by simp; omega), List.getElem?_set_ne (Ne.symm h2)]
/-- What a run of cells written into an array leaves. -/
theorem splice_get (cur : Array Value) (vs : List Value) (off : Nat) (h : off + vs.length ≤ cur.size) (j : Nat) :
    ((cur.toList.take off ++ vs ++ cur.toList.drop (off + vs.length)).toArray)[j]? = if off ≤ j ∧ j < off + vs.length then vs[j - off]? else cur[j]? := by
  have h1 : (cur.toList.take off).length = off := by simp; omega
  simp only [List.getElem?_toArray]
  by_cases ha : j < off
  · rw [if_neg (by omega), List.getElem?_append_left (by rw [List.length_append]; omega), List.getElem?_append_left (by omega), List.getElem?_take, if_pos ha]; simp
  · by_cases hb : j < off + vs.length
    · rw [if_pos ⟨by omega, hb⟩, List.getElem?_append_left (by rw [List.length_append]; omega), List.getElem?_append_right (by omega), h1]
    · rw [if_neg (by omega), List.getElem?_append_right (by rw [List.length_append]; omega), List.getElem?_drop, List.length_append, h1]
      simp only [Array.getElem?_toList]
      congr 1
      omega
theorem splice_size (cur : Array Value) (vs : List Value) (off : Nat) (h : off + vs.length ≤ cur.size) :
    (cur.toList.take off ++ vs ++ cur.toList.drop (off + vs.length)).toArray.size = cur.size := by
  simp only [List.size_toArray, List.length_append, List.length_take, List.length_drop, Array.length_toList]
  omega
def Live (φ : Phi) (x : AV) : Prop := ∀ id ∈ x.ids, ∃ y, φ id = some y
section
variable {P : Program} {C : Ctx} {st : St} {a : Act} {w : World} {φ : Phi} {F : Nat → Prop}
theorem VR.one_cell {x : AV} {u : Value} (h : VR φ F w x u) (hl : Live φ x) (ha : ∀ cs, x ≠ .agg cs) (ht : ∀ cs, x ≠ .tup cs) : u.oneCell' = true ∧ u.cells = #[u] := by
  cases x with
  | p v => exact ⟨RV.oneCell h, RV.cells h⟩
  | agg cs => exact absurd rfl (ha cs)
  | tup cs => exact absurd rfl (ht cs)
  | ptr id off =>
    obtain ⟨y, hy⟩ := hl id (by simp [AV.ids])
    obtain ⟨b, N, _, rfl⟩ := h y hy
    exact ⟨rfl, rfl⟩
  | rp cs off =>
    obtain ⟨ad, vs, rfl, _⟩ := h
    exact ⟨rfl, rfl⟩
  | own id off len sz =>
    obtain ⟨y, hy⟩ := hl id (by simp [AV.ids])
    rcases h y hy with ⟨_, rfl, _⟩ | ⟨b, N, c, _, rfl, _⟩ <;> exact ⟨rfl, rfl⟩
  | nils => rw [VR] at h; subst h; exact ⟨rfl, rfl⟩
  | nilm => rw [VR] at h; subst h; exact ⟨rfl, rfl⟩
  | map id =>
    obtain ⟨y, hy⟩ := hl id (by simp [AV.ids])
    obtain ⟨b, N, _, rfl⟩ := h y hy
    exact ⟨rfl, rfl⟩
  | fn f first caps =>
    obtain ⟨us, ws, rfl, _⟩ := h
    exact ⟨rfl, rfl⟩
theorem VRs.single {x : AV} {u : Value} (h : VR φ F w x u) : VRs φ F w [x] [u] := by
  rw [VRs]; exact ⟨u, [], rfl, h, by rw [VRs]⟩
theorem VR.cells {x : AV} {u : Value} {l : List AV} (h : VR φ F w x u) (hl : Live φ x) (hc : x.cells? = some l) : VRs φ F w l u.cells.toList ∧ ∀ v ∈ u.cells.toList, v.oneCell' = true := by
  by_cases hagg : ∃ cs, x = .agg cs
  · obtain ⟨cs, rfl⟩ := hagg
    simp only [AV.cells?] at hc; injection hc with hc; subst hc
    obtain ⟨us, rfl, h1, h2⟩ := h
    exact ⟨by simpa [Value.cells] using h1, by simpa [Value.cells] using h2⟩
  · by_cases htup : ∃ cs, x = .tup cs
    · obtain ⟨cs, rfl⟩ := htup
      simp [AV.cells?] at hc
    · have hx : l = [x] := by
        unfold AV.cells? at hc
        split at hc
        · exact absurd ⟨_, rfl⟩ hagg
        · exact absurd ⟨_, rfl⟩ htup
        · injection hc with hc; exact hc.symm
      subst hx
      obtain ⟨h1, h2⟩ := h.one_cell hl (fun cs e => hagg ⟨cs, e⟩) (fun cs e => htup ⟨cs, e⟩)
      rw [h2]
      exact ⟨VRs.single h, by simpa using h1⟩
theorem AV.pure?_rv {x : AV} {u : Value} {p : PV} (h : VR φ F w x u) (hp : x.pure? = some p) : RV w F u p := by
  unfold AV.pure? at hp
  split at hp
  · injection hp with hp; subst hp; exact h
  · injection hp with hp; subst hp
    rw [VR] at h; subst h
    exact .sl (fun _ => undef) (Nat.le_refl _) (by simp [maxLen]) (fun _ => rfl) (fun h => absurd rfl h) (fun j p hp => by simp at hp)
  · cases hp
theorem pures_length : ∀ {l : List AV} {ps : List PV}, pures l = some ps → ps.length = l.length
  | [], ps, h => by simp only [pures] at h; injection h with h; subst h; rfl
  | x :: xs, ps, h => by
    simp only [pures] at h
    split at h
    · rename_i p qs h1 h2
      injection h with h; subst h
      simp [pures_length h2]
    · cases h
theorem pures_rv : ∀ {l : List AV} {ps : List PV} {us : List Value}, pures l = some ps → VRs φ F w l us → ∀ (j : Nat) (p : PV), ps[j]? = some p → ∃ v, us[j]? = some v ∧ RV w F v p
  | [], ps, us, h, _, j, p, hp => by simp only [pures] at h; injection h with h; subst h; simp at hp
  | x :: xs, ps, us, h, hv, j, p, hp => by
    simp only [pures] at h
    split at h
    · rename_i q qs h1 h2
      injection h with h; subst h
      rw [VRs] at hv
      obtain ⟨u, r, rfl, h3, h4⟩ := hv
      match j with
      | 0 => simp at hp; subst hp; exact ⟨u, rfl, AV.pure?_rv h3 h1⟩
      | j + 1 => exact pures_rv h2 h4 j p (by simpa using hp)
    · cases h
def St.on (st : St) : List (Nat × Option ABlk) → St
  | [] => st
  | (id, B) :: r => (st.blk id B).on r
theorem Sim.setRow (h : Sim C st a w φ F) {id b : Nat} {N : Sz} {B' : ABlk} (hφ : φ id = some (some (b, N))) (hND : N.D = []) {cur' : Array Value} (hB : BR φ F (w.setRow b cur') b N B') : Sim C (st.blk id (some B')) a (w.setRow b cur') φ F :=
  h.write hφ rfl rfl rfl (by simp) (fun k hk => setRow_other w b k cur' hk) hND hB
theorem run_store_at {t b off : Nat} {cur : Array Value} {ty : TypeId} {v : Value} (hcur : w.heap[b]? = some (.cells cur ty (0, 0))) (hpos : 0 < P.cellsOf t) (hn : v.cells.toList.length = P.cellsOf t)
    (hfit : off + P.cellsOf t ≤ cur.size) (hone : ∀ u ∈ v.cells.toList, u.oneCell' = true) :
    ∃ cur' : Array Value, (Instr.storeAt t (.pointer (some ⟨b, off, none⟩)) v).run P w = .ok () (w.setRow b cur') ∧ cur'.size = cur.size ∧
      ∀ j : Nat, cur'[j]? = if off ≤ j ∧ j < off + P.cellsOf t then v.cells.toList[j - off]? else cur[j]? := by
  have hst := run_storeCells_at P b off ty v.cells.toList 0 cur w hcur (by simp at hn ⊢; omega) hone
  have h1 := splice_size cur v.cells.toList off (by omega)
  have h2 := splice_get cur v.cells.toList off (by omega)
  rw [hn] at h1 h2
  simp only [Nat.add_zero, hn] at hst
  have hcs : v.cells.size = P.cellsOf t := by simpa using hn
  refine ⟨_, ?_, h1, h2⟩
  simp only [Instr.storeAt, Instr.sureAddr, storeVar, pure_bind, Sem.run_bind, run_sizeOf hpos, Result.andThen_ok, hcs, ne_eq, not_true_eq_false, if_false]
  exact hst
theorem semStore_sound (h : Sim C st a w φ F) {t : Nat} {hp : AHeap} (hh : ∀ id B, hp.get id = some B → st.H id = some B) {args : List AV} {u v : Value} {out : Out}
    (hs : semStore P t hp args = some out) (hc : out.cond) (hv : VRs φ F w args [u, v]) (hlive : ∀ x ∈ args, Live φ x) (hpos : 0 < P.cellsOf t) :
    ∃ w', (Instr.storeAt t u v).run P w = .ok () w' ∧ Sim C (st.on out.upd) a w' φ F ∧ out.val = none := by
  unfold semStore at hs
  split at hs
  case h_2 => cases hs
  rename_i id off x
  obtain ⟨h1, h2⟩ := hv.two
  split at hs
  · rename_i ty cs l hg hl
    split at hs
    case isFalse => cases hs
    rename_i hlen
    injection hs with hs; subst hs
    obtain ⟨y, hy⟩ := h.live (hh _ _ hg)
    obtain ⟨b, N, rfl, rfl⟩ := h1 y hy
    obtain ⟨⟨cur, hcur, ⟨hN, hND⟩, hcl, hat⟩, hnF, hG⟩ := h.own_at (hh _ _ hg) hy
    obtain ⟨hvs, hone⟩ := VR.cells h2 (hlive x (by simp)) hl
    have hsz : v.cells.toList.length = l.length := hvs.length
    obtain ⟨cur', hrun, hs', hget⟩ := run_store_at (P := P) (t := t) (off := off) hcur hpos (by omega) (by omega) hone
    have hkF : KeptF F w (w.setRow b cur') := fun k hk => setRow_other w b k _ (fun e => hnF (e ▸ hk))
    refine ⟨w.setRow b cur', hrun, h.setRow hy hND ⟨cur', setRow_heap w b cur _ ty _ hcur, ⟨by omega, hND⟩, by rw [setL_length]; exact hcl, fun j p hp => ?_⟩, rfl⟩
    rw [setL_get _ _ _ (by omega)] at hp
    rw [hget, ← hlen.1]
    split at hp
    · rename_i hj
      rw [if_pos hj]
      obtain ⟨z, hz1, hz2⟩ := hvs.get _ _ hp
      exact ⟨z, hz1, VR.keep (Phi.Le.refl φ) (fun _ k => k) hkF _ hz2, hone z (List.mem_of_getElem? hz1)⟩
    · rename_i hj
      rw [if_neg hj]
      obtain ⟨z, hz1, hz2, hz3⟩ := hat j p hp
      exact ⟨z, hz1, VR.keep (Phi.Le.refl φ) (fun _ k => k) hkF _ hz2, hz3⟩
  · rename_i ty cs l hg hl
    split at hs
    case isFalse => cases hs
    rename_i hlen
    split at hs
    case h_2 => cases hs
    rename_i ps hps
    injection hs with hs; subst hs
    have hcc : off + ps.length ≤ cs.length := hc
    obtain ⟨y, hy⟩ := h.live (hh _ _ hg)
    obtain ⟨b, N, rfl, rfl⟩ := h1 y hy
    obtain ⟨⟨cur, hcur, ⟨hN, hND⟩, hcl, hat⟩, hnF, hG⟩ := h.own_at (hh _ _ hg) hy
    obtain ⟨hvs, hone⟩ := VR.cells h2 (hlive x (by simp)) hl
    have hsz : v.cells.toList.length = l.length := hvs.length
    have hpl := pures_length hps
    obtain ⟨cur', hrun, hs', hget⟩ := run_store_at (P := P) (t := t) (off := off) hcur hpos (by omega) (by omega) hone
    have hkF : KeptF F w (w.setRow b cur') := fun k hk => setRow_other w b k _ (fun e => hnF (e ▸ hk))
    refine ⟨w.setRow b cur', hrun, h.setRow hy hND ⟨cur', setRow_heap w b cur _ ty _ hcur, ⟨by omega, hND⟩, by rw [setL_length]; exact hcl, fun j p hp => ?_⟩, rfl⟩
    rw [setL_get _ _ _ (by omega)] at hp
    rw [hget, ← hlen, ← hpl]
    split at hp
    · rename_i hj
      rw [if_pos hj]
      obtain ⟨z, hz1, hz2⟩ := pures_rv hps hvs _ _ hp
      exact ⟨z, hz1, hz2.keep (fun _ k => k) hkF⟩
    · rename_i hj
      rw [if_neg hj]
      obtain ⟨z, hz1, hz2⟩ := hat j p hp
      exact ⟨z, hz1, hz2.keep (fun _ k => k) hkF⟩
  · cases hs
/-- A new block of the call's own that holds cells given one by one. -/
theorem Sim.allocLit (h : Sim C st a w φ F) {id : Nat} (hf : Fresh st id) (hp : C.pin id = none) {us : List Value} {l : List AV} (ty : TypeId) (hv : VRs φ F w l us) (hone : ∀ v ∈ us, v.oneCell' = true) (hnot : id ∉ AV.ids.idsOf l) :
    Sim C (st.blk id (some (.lit ty l))) a (w.alloc (.cells us.toArray ty)) (φ.set id (some (some (w.heap.size, ⟨us.toArray.size, []⟩)))) F := by
  refine h.alloc hf hp ⟨us.toArray, heap_alloc_new w _, ⟨rfl, rfl⟩, by simp [hv.length], fun j p hpj => ?_⟩
  obtain ⟨v, h1, h2⟩ := hv.get j p hpj
  refine ⟨v, by simpa using h1, ?_, hone v (List.mem_of_getElem? h1)⟩
  have hk : KeptF F w (w.alloc (.cells us.toArray ty)) := fun b hb => Below.heap_alloc w _ b (h.Fd b hb)
  refine VR.congr (φ := φ) p (fun i hi z hz => ?_) (VR.keep (Phi.Le.refl φ) (fun _ k => k) hk _ h2)
  have : i ≠ id := by rintro rfl; exact hnot (mem_idsOf (List.mem_of_getElem? hpj) hi)
  simpa [Phi.set, this] using hz
theorem Sim.allocRow (h : Sim C st a w φ F) {id : Nat} (hf : Fresh st id) (hp : C.pin id = none) {cur : Array Value} {ps : List PV} (ty : TypeId) (hl : ps.length ≤ cur.size) (hv : ∀ (j : Nat) (p : PV), ps[j]? = some p → ∃ v, cur[j]? = some v ∧ RV w F v p) :
    Sim C (st.blk id (some (.row ty ps))) a (w.alloc (.cells cur ty)) (φ.set id (some (some (w.heap.size, ⟨cur.size, []⟩)))) F := by
  refine h.alloc hf hp ⟨cur, heap_alloc_new w _, ⟨rfl, rfl⟩, hl, fun j p hpj => ?_⟩
  obtain ⟨v, h1, h2⟩ := hv j p hpj
  exact ⟨v, h1, h2.keep (fun _ k => k) fun b hb => Below.heap_alloc w _ b (h.Fd b hb)⟩
/-- A new block that is only read from now on. -/
theorem Sim.allocF (h : Sim C st a w φ F) {cur : Array Value} {ps : List PV} (ty : TypeId) (n : Nat) (hn : n ≤ maxLen) (hv : ∀ (j : Nat) (p : PV), ps[j]? = some p → ∃ v, cur[j]? = some v ∧ RV w F v p) :
    Sim C st a (w.alloc (.cells cur ty)) φ (fun b => F b ∨ b = w.heap.size) ∧ RV (w.alloc (.cells cur ty)) (fun b => F b ∨ b = w.heap.size) (.slice (some ⟨w.heap.size, 0, none⟩) n n) (.sl ps n) := by
  have hk : KeptF F w (w.alloc (.cells cur ty)) := fun b hb => Below.heap_alloc w _ b (h.Fd b hb)
  constructor
  · refine h.grow rfl rfl rfl (by simp) (fun b hb => .inl hb) (fun b hb => ?_) fun b hb => Below.heap_alloc w _ b hb
    rcases hb with hb | rfl
    · exact ⟨by have := h.Fd b hb; simp; omega, .inl hb⟩
    · exact ⟨by simp, .inr (Nat.le_refl _)⟩
  · refine .sl (fun j => cur.getD j undef) (Nat.le_refl _) hn (fun e => by cases e) (fun _ => ⟨_, rfl, .inr rfl, fun j hj => ?_⟩) fun j p hp => ?_
    · obtain ⟨v, h1, _⟩ := hv j _ (List.getElem?_eq_getElem hj)
      rw [add_lit, cell_blk (heap_alloc_new w _), Nat.zero_add, h1]
      simp [Array.getD_eq_getD_getElem?, h1]
    · obtain ⟨v, h1, h2⟩ := hv j p hp
      have : cur.getD j undef = v := by simp [Array.getD_eq_getD_getElem?, h1]
      rw [this]
      exact h2.keep (fun b hb => .inl hb) hk
end
end Go.AM
end
section
namespace Go.AM
open Go Go.RowKit
section
variable {P : Program} {C : Ctx} {st : St} {a : Act} {w : World} {φ : Phi} {F : Nat → Prop}
theorem mapM_vrs : ∀ {vs : List Value} {l : List AV}, vs.mapM ofValue = some l → VRs φ F w l vs
  | [], l, h => by simp at h; subst h; rw [VRs]
  | v :: vs, l, h => by
    simp only [List.mapM_cons, Option.bind_eq_bind, Option.bind_eq_some_iff, Option.pure_def, Option.some.injEq] at h
    obtain ⟨x, h1, xs, h2, rfl⟩ := h
    rw [VRs]
    exact ⟨v, vs, rfl, VR.ofValue h1, mapM_vrs h2⟩
theorem ofValue_one {v : Value} {x : AV} (h : ofValue v = some x) : v.oneCell' = true := by
  unfold ofValue at h
  split at h <;> first | rfl | cases h
theorem mapM_one : ∀ {vs : List Value} {l : List AV}, vs.mapM ofValue = some l → ∀ v ∈ vs, v.oneCell' = true
  | [], _, _, v, hv => by cases hv
  | u :: vs, l, h, v, hv => by
    simp only [List.mapM_cons, Option.bind_eq_bind, Option.bind_eq_some_iff, Option.pure_def, Option.some.injEq] at h
    obtain ⟨x, h1, xs, h2, rfl⟩ := h
    rcases List.mem_cons.1 hv with rfl | hv
    · exact ofValue_one h1
    · exact mapM_one h2 v hv
theorem ofValue_ids {v : Value} {x : AV} (h : ofValue v = some x) : x.ids = [] := by
  unfold ofValue at h
  split at h
  · injection h with h; subst h; rfl
  · split at h
    · injection h with h; subst h; rfl
    · cases h
  · split at h
    · injection h with h; subst h; rfl
    · cases h
  · injection h with h; subst h; rfl
  · injection h with h; subst h; rfl
  · cases h
theorem mapM_ids : ∀ {vs : List Value} {l : List AV}, vs.mapM ofValue = some l → AV.ids.idsOf l = []
  | [], l, h => by simp at h; subst h; rfl
  | v :: vs, l, h => by
    simp only [List.mapM_cons, Option.bind_eq_bind, Option.bind_eq_some_iff, Option.pure_def, Option.some.injEq] at h
    obtain ⟨x, h1, xs, h2, rfl⟩ := h
    simp [AV.ids.idsOf, ofValue_ids h1, mapM_ids h2]
theorem zeroCells_run {t : Nat} {l : List AV} (h : zeroCells P t = some l) : ∃ i z, P.info? t = some i ∧ i.zero = some z ∧ z.cells.toList.mapM ofValue = some l := by
  unfold zeroCells at h
  split at h
  · rename_i i hi
    split at h
    · rename_i z hz
      exact ⟨i, z, hi, hz, h⟩
    · cases h
  · cases h
/-- 'Op.alloc' and 'Op.box': a new variable, its cells given. -/
def semAlloc (ty : Nat) (dst : Option Nat) (orc : Orc) (cells : Option (List AV)) : Option Out :=
  match cells, newId dst orc.id with
  | some l, some id => some ⟨some (.ptr id 0), [(id, some (.lit ty l))], True, [id]⟩
  | _, _ => none
theorem semAlloc_sound (h : Sim C st a w φ F) {ty : Nat} {dst : Option Nat} {orc : Orc} {l : List AV} {out : Out} (hs : semAlloc ty dst orc (some l) = some out)
    (hnew : ∀ id ∈ out.new, Fresh st id ∧ C.pin id = none) {us : List Value} (hv : VRs φ F w l us) (hone : ∀ v ∈ us, v.oneCell' = true) (hids : ∀ id ∈ AV.ids.idsOf l, st.H id ≠ none) :
    ∃ φ' v, v = .pointer (some ⟨w.heap.size, 0, none⟩) ∧ Sim C (st.on out.upd) a (w.alloc (.cells us.toArray ty)) φ' F ∧ ∀ x, out.val = some x → VR φ' F (w.alloc (.cells us.toArray ty)) x v := by
  unfold semAlloc at hs
  split at hs
  · rename_i l' id e1 e2
    injection hs with hs; subst hs
    injection e1 with e1; subst e1
    obtain ⟨hf, hp⟩ := hnew id (by simp)
    refine ⟨_, _, rfl, h.allocLit hf hp ty hv hone (fun hm => hids id hm hf.blk), fun x hx => ?_⟩
    injection hx with hx; subst hx
    intro y hy
    rw [Phi.set_eq] at hy; injection hy with hy; subst hy
    exact ⟨_, _, rfl, rfl⟩
  · cases hs
theorem run_alloc {t : Nat} {l : List AV} (h : zeroCells P t = some l) : ∃ us : List Value, VRs φ F w l us ∧ (∀ v ∈ us, v.oneCell' = true) ∧
    (Instr.alloc t true (.tuple #[])).run P w = .ok (.pointer (some ⟨w.heap.size, 0, none⟩)) (w.alloc (.cells us.toArray t)) := by
  obtain ⟨i, z, h1, h2, h3⟩ := zeroCells_run h
  refine ⟨z.cells.toList, mapM_vrs h3, mapM_one h3, ?_⟩
  simp [Instr.alloc, zeroValue, typeInfo, h1, h2, newVar, newRow]
theorem run_box {t : Nat} (v : Value) : (Instr.box t v).run P w = .ok (.pointer (some ⟨w.heap.size, 0, none⟩)) (w.alloc (.cells v.cells t)) := by
  simp [Instr.box, newVar, newRow]
/-- The model's filling of the places of a literal does what 'fillCells' does. -/
theorem foldl_set_get : ∀ (cs : List Value) (k : Nat) (arr : Array Value) (off : Nat), off + k + cs.length ≤ arr.size →
    ((cs.zipIdx k).foldl (fun (a : Array Value) (x : Value × Nat) => a.setIfInBounds (off + x.2) x.1) arr).size = arr.size ∧
    ∀ j : Nat, ((cs.zipIdx k).foldl (fun (a : Array Value) (x : Value × Nat) => a.setIfInBounds (off + x.2) x.1) arr)[j]? = if off + k ≤ j ∧ j < off + k + cs.length then cs[j - (off + k)]? else arr[j]?
  | [], k, arr, off, _ => ⟨rfl, fun j => by simp; intro h1 h2; omega⟩
  | c :: cs, k, arr, off, h => by
    simp only [List.length_cons] at h
    have ih := foldl_set_get cs (k + 1) (arr.setIfInBounds (off + k) c) off (by simp; omega)
    simp only [List.zipIdx_cons, List.foldl_cons]
    refine ⟨ih.1.trans (by simp), fun j => (ih.2 j).trans ?_⟩
    by_cases h1 : off + (k + 1) ≤ j ∧ j < off + (k + 1) + cs.length
    · rw [if_pos h1, if_pos (by simp; omega)]
      obtain ⟨m, rfl⟩ : ∃ m, j = off + k + (m + 1) := ⟨j - off - k - 1, by omega⟩
      rw [show off + k + (m + 1) - (off + k) = m + 1 by omega, show off + k + (m + 1) - (off + (k + 1)) = m by omega]
      simp
    · rw [if_neg h1]
      by_cases h2 : j = off + k
      · subst h2
        rw [if_pos (by simp), Array.getElem?_setIfInBounds_self_of_lt (by omega)]
        simp
      · rw [if_neg (by simp; omega), Array.getElem?_setIfInBounds_ne (Ne.symm h2)]
theorem foldl_zip (cs : Array Value) (arr : Array Value) (off : Nat) : cs.zipIdx.foldl (fun (a : Array Value) (x : Value × Nat) => a.setIfInBounds (off + x.2) x.1) arr = (cs.toList.zipIdx 0).foldl (fun (a : Array Value) (x : Value × Nat) => a.setIfInBounds (off + x.2) x.1) arr := by
  rw [← Array.foldl_toList]
  simp
/-- Cells and what they read as, all of one cell. -/
def Cells (φ : Phi) (F : Nat → Prop) (w : World) (l : List AV) (arr : Array Value) : Prop := VRs φ F w l arr.toList ∧ ∀ v ∈ arr.toList, v.oneCell' = true
theorem Cells.set {l l' : List AV} {arr arr' : Array Value} {off : Nat} {vs : List Value} (h : Cells φ F w l arr) (hv : VRs φ F w l' vs) (hone : ∀ v ∈ vs, v.oneCell' = true)
    (hfit : off + l'.length ≤ l.length) (hs : arr'.size = arr.size) (hg : ∀ j : Nat, arr'[j]? = if off ≤ j ∧ j < off + vs.length then vs[j - off]? else arr[j]?) : Cells φ F w (setL l off l') arr' := by
  have hl := h.1.length
  have hl' := hv.length
  simp only [Array.length_toList] at hl
  refine ⟨VRs.mk (by rw [setL_length]; simp; omega) fun j x v hx hv' => ?_, fun v hv' => ?_⟩
  · rw [setL_get _ _ _ hfit] at hx
    simp only [Array.getElem?_toList] at hv'
    rw [hg] at hv'
    by_cases hj : off ≤ j ∧ j < off + l'.length
    · rw [if_pos hj] at hx
      rw [if_pos (by omega)] at hv'
      obtain ⟨z, h1, h2⟩ := hv.get _ _ hx
      rw [h1] at hv'; injection hv' with hv'; subst hv'; exact h2
    · rw [if_neg hj] at hx
      rw [if_neg (by omega)] at hv'
      obtain ⟨z, h1, h2⟩ := h.1.get _ _ hx
      simp only [Array.getElem?_toList] at h1
      rw [h1] at hv'; injection hv' with hv'; subst hv'; exact h2
  · obtain ⟨j, hj⟩ := List.getElem?_of_mem hv'
    simp only [Array.getElem?_toList] at hj
    rw [hg] at hj
    split at hj
    · exact hone v (List.mem_of_getElem? hj)
    · exact h.2 v (by rw [← Array.mem_def]; exact Array.mem_of_getElem? hj)
theorem fill_sound {place : Nat → Option (Nat × Nat)} : ∀ {is : List Nat} {args : List AV} {us : List Value} {l l' : List AV} {arr : Array Value}, fillCells place l is args = some l' → VRs φ F w args us → (∀ x ∈ args, Live φ x) →
    Cells φ F w l arr → ∃ arr' : Array Value, Instr.fill place arr (is.zip us) = some arr' ∧ Cells φ F w l' arr'
  | [], [], us, l, l', arr, h, hv, _, hc => by
    rw [VRs] at hv; subst hv
    simp only [fillCells] at h; injection h with h; subst h
    exact ⟨arr, rfl, hc⟩
  | i :: is, x :: args, us, l, l', arr, h, hv, hlive, hc => by
    rw [VRs] at hv
    obtain ⟨u, us, rfl, h1, h2⟩ := hv
    simp only [fillCells] at h
    split at h
    · rename_i off size lx hp hx
      split at h
      case isFalse => cases h
      rename_i hsz
      obtain ⟨hcv, hone⟩ := VR.cells h1 (hlive x (by simp)) hx
      have hul := hcv.length
      have hl := hc.1.length
      simp only [Array.length_toList] at hl hul
      simp only [List.zip_cons_cons, Instr.fill, hp]
      have hno : ¬ ((u.cells.size ≠ size ∨ off + u.cells.size > arr.size)) := by omega
      have hb : (decide (u.cells.size ≠ size) || decide (off + u.cells.size > arr.size)) = false := by simpa using hno
      rw [hb]
      simp only [Bool.false_eq_true, if_false]
      have hf := foldl_set_get u.cells.toList 0 arr off (by simp; omega)
      simp only [Nat.add_zero] at hf
      rw [← foldl_zip u.cells arr off] at hf
      exact fill_sound h h2 (fun y hy => hlive y (by simp [hy])) (hc.set hcv hone (by omega) hf.1 hf.2)
    · cases h
  | [], _ :: _, _, _, _, _, h, _, _, _ => by simp [fillCells] at h
  | _ :: _, [], _, _, _, _, h, _, _, _ => by simp [fillCells] at h
theorem fillCells_length {place : Nat → Option (Nat × Nat)} : ∀ {is : List Nat} {args : List AV} {l l' : List AV}, fillCells place l is args = some l' → l'.length = l.length
  | [], [], l, l', h => by simp only [fillCells] at h; injection h with h; subst h; rfl
  | i :: is, x :: args, l, l', h => by
    simp only [fillCells] at h
    split at h
    · split at h
      · rw [fillCells_length h, setL_length]
      · cases h
    · cases h
  | [], _ :: _, _, _, h => by simp [fillCells] at h
  | _ :: _, [], _, _, h => by simp [fillCells] at h
theorem mem_ids_iff {l : List AV} {id : Nat} : id ∈ AV.ids.idsOf l ↔ ∃ x ∈ l, id ∈ x.ids := by
  induction l with
  | nil => simp [AV.ids.idsOf]
  | cons a as ih => simp [AV.ids.idsOf, ih]
theorem setL_mem {α : Type} : ∀ (l cs : List α) (off : Nat) (x : α), x ∈ setL cs off l → x ∈ cs ∨ x ∈ l
  | [], cs, off, x, h => .inl h
  | v :: r, cs, off, x, h => by
    rw [setL] at h
    rcases setL_mem r _ _ x h with h | h
    · rcases List.mem_or_eq_of_mem_set h with h | h
      · exact .inl h
      · exact .inr (by simp [h])
    · exact .inr (by simp [h])
theorem cells?_ids {x : AV} {l : List AV} (h : x.cells? = some l) {id : Nat} (hi : id ∈ AV.ids.idsOf l) : id ∈ x.ids := by
  unfold AV.cells? at h
  split at h
  · injection h with h; subst h; exact hi
  · cases h
  · injection h with h; subst h; simpa [AV.ids.idsOf] using hi
theorem fillCells_ids {place : Nat → Option (Nat × Nat)} : ∀ {is : List Nat} {args : List AV} {l l' : List AV}, fillCells place l is args = some l' → ∀ id ∈ AV.ids.idsOf l', id ∈ AV.ids.idsOf l ∨ ∃ x ∈ args, id ∈ x.ids
  | [], [], l, l', h, id, hi => by simp only [fillCells] at h; injection h with h; subst h; exact .inl hi
  | i :: is, x :: args, l, l', h, id, hi => by
    simp only [fillCells] at h
    split at h
    · rename_i off size lx hp hx
      split at h
      · rcases fillCells_ids h id hi with h1 | ⟨y, hy, hyi⟩
        · obtain ⟨y, hy, hyi⟩ := mem_ids_iff.1 h1
          rcases setL_mem _ _ _ _ hy with hy | hy
          · exact .inl (mem_ids_iff.2 ⟨y, hy, hyi⟩)
          · exact .inr ⟨x, by simp, cells?_ids hx (mem_ids_iff.2 ⟨y, hy, hyi⟩)⟩
        · exact .inr ⟨y, by simp [hy], hyi⟩
      · cases h
    · cases h
  | [], _ :: _, _, _, h, _, _ => by simp [fillCells] at h
  | _ :: _, [], _, _, h, _, _ => by simp [fillCells] at h
theorem flat_ids {z : List AV} (hz : AV.ids.idsOf z = []) (n : Nat) : AV.ids.idsOf (List.replicate n z).flatten = [] := by
  apply List.eq_nil_iff_forall_not_mem.2
  intro id hi
  obtain ⟨x, hx, hxi⟩ := mem_ids_iff.1 hi
  obtain ⟨l, hl, hxl⟩ := List.mem_flatten.1 hx
  rw [List.mem_replicate] at hl
  have := mem_ids_iff.2 ⟨x, hl.2 ▸ hxl, hxi⟩
  rw [hz] at this
  cases this
theorem zip_map (parts : Array (Nat × Operand)) (ρ : Operand → Value) : (parts.map fun (i, x) => (i, ρ x)).toList = (parts.toList.map (·.1)).zip ((parts.toList.map (·.2)).map ρ) := by
  simp only [Array.toList_map]
  induction parts.toList with
  | nil => rfl
  | cons x xs ih => simp [ih]
theorem semBuild_sound {t : Nat} {parts : Array (Nat × Operand)} {ρ : Operand → Value} {args : List AV} {out : Out} (hs : semBuild P t (parts.toList.map (·.1)) args = some out)
    (hv : VRs φ F w args ((parts.toList.map (·.2)).map ρ)) (hlive : ∀ x ∈ args, Live φ x) : Yields P φ F w out (Instr.build t (parts.map fun (i, x) => (i, ρ x))) := by
  unfold semBuild at hs
  split at hs
  · rename_i z fs hz hu
    split at hs
    · rename_i ps hps
      split at hs
      · rename_i cs hcs
        obtain ⟨it, zv, h1, h2, h3⟩ := zeroCells_run hz
        obtain ⟨arr, ha, hc⟩ := fill_sound hcs hv hlive ⟨mapM_vrs h3, mapM_one h3⟩
        refine .mk hs (run_build w t _ arr ?_) ⟨arr.toList, by simp, hc.1, hc.2⟩
        unfold placesOf at hps
        simp only [Program.built, h1, hu, h2, hps, zip_map, ha]
      · cases hs
    · cases hs
  · rename_i z n e hz hu
    split at hs
    · rename_i k hk
      split at hs
      · rename_i cs hcs
        obtain ⟨it, zv, h1, h2, h3⟩ := zeroCells_run hz
        obtain ⟨arr, ha, hc⟩ := fill_sound hcs hv hlive ⟨mapM_vrs h3, mapM_one h3⟩
        refine .mk hs (run_build w t _ arr ?_) ⟨arr.toList, by simp, hc.1, hc.2⟩
        simp only [Program.built, h1, hu, h2, hk, zip_map, ha]
      · cases hs
    · cases hs
  · cases hs
theorem flat_length {α : Type} (z : List α) (n : Nat) : (List.replicate n z).flatten.length = n * z.length := by simp
theorem flat_get {α : Type} (z : List α) : ∀ (n j : Nat), (List.replicate n z).flatten[j]? = if j < n * z.length then z[j % z.length]? else none
  | 0, j => by simp
  | n + 1, j => by
    rw [List.replicate_succ, List.flatten_cons]
    by_cases h : j < z.length
    · rw [List.getElem?_append_left h, Nat.mod_eq_of_lt h, if_pos (by rw [Nat.succ_mul]; omega)]
    · rw [List.getElem?_append_right (by omega), flat_get z n, Nat.succ_mul]
      have e : (j - z.length) % z.length = j % z.length := by rw [← Nat.mod_eq_sub_mod (by omega)]
      rw [e]
      by_cases h2 : j - z.length < n * z.length
      · rw [if_pos h2, if_pos (by omega)]
      · rw [if_neg h2, if_neg (by omega)]
theorem made_get (z : Array Value) (n : Nat) (j : Nat) (hz : 0 < z.size) : ((Array.range n).map (z[· % z.size]!))[j]? = if j < n then z[j % z.size]? else none := by
  by_cases h : j < n
  · have : j % z.size < z.size := Nat.mod_lt _ hz
    simp [h, this]
  · simp [h]
theorem zero_cells {zl : List AV} {zv : Value} (h : zv.cells.toList.mapM ofValue = some zl) (n : Nat) (hpos : 0 < zl.length) : Cells φ F w (List.replicate n zl).flatten ((Array.range (n * zl.length)).map (zv.cells[· % zv.cells.size]!)) := by
  have hv := mapM_vrs (φ := φ) (F := F) (w := w) h
  have hl : zv.cells.size = zl.length := by simpa using hv.length
  refine ⟨VRs.mk (by simp) fun j x v hx hv' => ?_, fun v hv' => ?_⟩
  · rw [flat_get] at hx
    simp only [Array.getElem?_toList] at hv'
    rw [made_get _ _ _ (by omega), hl] at hv'
    split at hx
    · rename_i hj
      rw [if_pos hj] at hv'
      obtain ⟨z, h1, h2⟩ := hv.get _ _ hx
      simp only [Array.getElem?_toList] at h1
      rw [h1] at hv'; injection hv' with hv'; subst hv'; exact h2
    · cases hx
  · obtain ⟨j, hj⟩ := List.getElem?_of_mem hv'
    simp only [Array.getElem?_toList] at hj
    rw [made_get _ _ _ (by omega)] at hj
    split at hj
    · exact mapM_one h v (by rw [← Array.mem_def]; exact Array.mem_of_getElem? hj)
    · cases hj
/-- What an operation that makes memory does. -/
def Makes (P : Program) (C : Ctx) (st : St) (a : Act) (w : World) (out : Out) (s : Sem Value) : Prop :=
  ∃ v w' φ' F', s.run P w = .ok v w' ∧ Sim C (st.on out.upd) a w' φ' F' ∧ ∃ x, out.val = some x ∧ VR φ' F' w' x v
theorem semBuildSlice_sound (h : Sim C st a w φ F) {t n : Nat} {parts : Array (Nat × Operand)} {ρ : Operand → Value} {dst : Option Nat} {orc : Orc} {args : List AV} {out : Out}
    (hs : semBuildSlice P t n (parts.toList.map (·.1)) dst orc args = some out) (hnew : ∀ id ∈ out.new, Fresh st id ∧ C.pin id = none)
    (hv : VRs φ F w args ((parts.toList.map (·.2)).map ρ)) (hids : ∀ x ∈ args, ∀ id ∈ x.ids, st.H id ≠ none) :
    Makes P C st a w out (Instr.buildSlice t n (parts.map fun (i, x) => (i, ρ x))) := by
  have hlive : ∀ x ∈ args, Live φ x := fun x hx id hi => by
    cases hB : st.H id with
    | none => exact absurd hB (hids x hx id hi)
    | some B => exact h.live hB
  unfold semBuildSlice at hs
  split at hs
  case h_2 => cases hs
  rename_i e k hk
  obtain ⟨hu, hi⟩ := sliceOf_run hk
  split at hs
  case h_2 => cases hs
  rename_i z hz
  obtain ⟨it, zv, h1, h2, h3⟩ := zeroCells_run hz
  rw [hi] at h1; injection h1 with h1; subst h1
  split at hs
  case isFalse => cases hs
  rename_i hc
  obtain ⟨hn1, hn2, hn3⟩ := hc
  split at hs
  case h_2 => cases hs
  rename_i cs hcs
  have hcell0 := zero_cells (φ := φ) (F := F) (w := w) h3 n (by omega)
  rw [hn2] at hcell0
  obtain ⟨arr, ha, hcl⟩ := fill_sound hcs hv hlive hcell0
  have hcl1 := hcl.1.length
  simp only [Array.length_toList] at hcl1
  have hrun : (Instr.buildSlice t n (parts.map fun (i, x) => (i, ρ x))).run P w = .ok (.slice (some ⟨w.heap.size, 0, none⟩) n n) (w.alloc (.cells arr e)) := by
    by_cases hpos : n * k.size = 0
    · have h0 : (Array.map (fun x => zv.cells[x % zv.cells.size]!) (Array.range (n * k.size))) = (Array.map (fun x => (#[] : Array Value)[x % (#[] : Array Value).size]!) (Array.range (n * k.size))) := by rw [hpos]; simp
      rw [h0] at ha
      simp only [Instr.buildSlice, Sem.run_bind, run_underlying hu, Result.andThen_ok, sizeOf, typeInfo, run_program, hi, Sem.run_pure, hpos, if_true, zip_map]
      rw [hpos] at ha
      rw [if_neg (by decide)]
      simp only [pure_bind, ha]
      simp [newRow]
    · exact run_buildSlice w t e n _ arr k zv hu hi h2 (by omega) hpos (by rw [zip_map]; exact ha)
  have hn63 : n ≤ maxLen := by
    have : n ≤ n * k.size := Nat.le_mul_of_pos_right n hn3
    simp only [maxLen]; omega
  have frozen : ∀ ps, pures cs = some ps → outV (.p (.sl ps n)) True = some out → Makes P C st a w out (Instr.buildSlice t n (parts.map fun (i, x) => (i, ρ x))) := fun ps hps hs => by
    injection hs with hs; subst hs
    obtain ⟨q1, q2⟩ := h.allocF (cur := arr) (ps := ps) e n hn63 fun j p hp => by
      obtain ⟨v, hv1, hv2⟩ := pures_rv hps hcl.1 j p hp
      exact ⟨v, by simpa using hv1, hv2⟩
    exact ⟨_, _, _, _, hrun, q1, _, rfl, q2⟩
  have hlen := fillCells_length hcs
  rw [flat_length, hn2] at hlen
  have row : ∀ ps id, pures cs = some ps → some (⟨some (.own id 0 n k.size), [(id, some (.row e ps))], True, [id]⟩ : Out) = some out → Makes P C st a w out (Instr.buildSlice t n (parts.map fun (i, x) => (i, ρ x))) := fun ps id hps hs => by
    injection hs with hs; subst hs
    obtain ⟨hf, hp⟩ := hnew id (by simp)
    have hpl := pures_length hps
    have q := h.allocRow hf hp (cur := arr) (ps := ps) e (by omega) fun j p hp => by
      obtain ⟨v, hv1, hv2⟩ := pures_rv hps hcl.1 j p hp
      exact ⟨v, by simpa using hv1, hv2⟩
    refine ⟨_, _, _, _, hrun, q, _, rfl, fun y hy => ?_⟩
    rw [Phi.set_eq] at hy; injection hy with hy; subst hy
    exact .inr ⟨_, _, n, rfl, rfl, Nat.le_refl _, hn63, by show 0 + n * k.size ≤ arr.size; omega⟩
  have lit : ∀ id, some (⟨some (.own id 0 n k.size), [(id, some (.lit e cs))], True, [id]⟩ : Out) = some out → Makes P C st a w out (Instr.buildSlice t n (parts.map fun (i, x) => (i, ρ x))) := fun id hs => by
    injection hs with hs; subst hs
    obtain ⟨hf, hp⟩ := hnew id (by simp)
    have q := h.allocLit hf hp e hcl.1 hcl.2 fun hm => by
      rcases fillCells_ids hcs id hm with h5 | ⟨x, hx, hxi⟩
      · rw [flat_ids (mapM_ids h3)] at h5
        cases h5
      · exact hids x hx id hxi hf.blk
    refine ⟨_, _, _, _, hrun, by simpa [St.on] using q, _, rfl, fun y hy => ?_⟩
    rw [Phi.set_eq] at hy; injection hy with hy; subst hy
    exact .inr ⟨_, _, n, rfl, rfl, Nat.le_refl _, hn63, by simp; omega⟩
  split at hs
  · exact frozen _ ‹_› hs
  · exact row _ _ ‹_› hs
  · exact lit _ hs
  · cases hs
end
end Go.AM
end
