/- append, make, cuts, lengths. -/
import Derived.Test.YtijdlphadhpabaaA2
section
namespace Go.AM
open Go Go.RowKit
section
variable {P : Program} {C : Ctx} {st : St} {a : Act} {w : World} {φ : Phi} {F : Nat → Prop}
theorem Fresh.kill {N : Nat} (h : Fresh st N) (id : Nat) : Fresh (st.blk id none) N where
  blk := by by_cases hi : N = id <;> simp [St.blk, hi, h.blk]
  env := h.env
  own := fun i B hB => by
    by_cases hi : i = id
    · subst hi; simp [St.blk] at hB
    · exact h.own i B (by simpa [St.blk, hi] using hB)
/-- A row goes on under another number. -/
theorem Sim.rebind (h : Sim C st a w φ F) {id N : Nat} {ty : TypeId} {cs : List PV} (hB : st.H id = some (.row ty cs)) (hf : Fresh st N) (hp : C.pin N = none) (hne : N ≠ id) :
    ∃ y, φ id = some y ∧ Spot C φ F w (.row ty cs) y ∧ Sim C ((st.blk id none).blk N (some (.row ty cs))) a w ((φ.set id none).set N (some y)) F := by
  obtain ⟨y, hy, hs⟩ := h.own id _ hB
  refine ⟨y, hy, hs, ?_⟩
  have hk := h.kill id
  refine hk.turn (y := y) (F' := F) (.inr ⟨hf.kill id, hp⟩) rfl rfl rfl (Nat.le_refl _) (fun _ k => k) (fun b hb => ⟨h.Fd b hb, .inl hb⟩) (fun _ _ _ => rfl) (fun b n e => ?_) (fun b n e => ?_) (fun i b n _ hi hb => ?_) (fun i b n hi c hc => ?_) ?_
  · subst e
    refine ⟨hs.2.1, hs.2.2, fun i N' hi => ?_⟩
    by_cases hii : i = id
    · subst hii; simp [Phi.set] at hi
    · rw [Phi.set_ne hii] at hi
      exact absurd (h.inj i id b _ _ hi hy) hii
  · subst e
    obtain ⟨⟨cur, _, hN, _⟩, _⟩ := hs
    refine ⟨hN.2, fun i b' N' hi hc => ?_⟩
    by_cases hii : i = id
    · subst hii; simp [Phi.set] at hi
    · rw [Phi.set_ne hii] at hi
      exact (h.sep i id b' b N' n b hi hy hc (.inl rfl)).2 rfl
  · by_cases hii : i = id
    · subst hii; simp [Phi.set] at hi
    · rw [Phi.set_ne hii] at hi
      cases hB0 : st.H i with
      | none => exact h.dom i _ hi hB0
      | some B => exact (h.own_at hB0 hi).2.1 hb
  · by_cases hii : i = id
    · subst hii; simp [Phi.set] at hi
    · rw [Phi.set_ne hii] at hi
      exact (h.Dok i b n hi c hc).2.1
  · cases y with
    | none => exact hs
    | some y => exact hs
/-- An empty row without a block. -/
theorem Sim.bare (h : Sim C st a w φ F) {N : Nat} (ty : TypeId) (hf : Fresh st N) (hp : C.pin N = none) : Sim C (st.blk N (some (.row ty []))) a w (φ.set N (some none)) F := by
  refine h.turn (y := none) (F' := F) (.inr ⟨hf, hp⟩) rfl rfl rfl (Nat.le_refl _) (fun _ k => k) (fun b hb => ⟨h.Fd b hb, .inl hb⟩) (fun _ _ _ => rfl) (fun b n e => by cases e) (fun b n e => by cases e) (fun i b n _ hi hb => ?_) (fun i b n hi c hc => (h.Dok i b n hi c hc).2.1) ⟨ty, rfl⟩
  cases hB0 : st.H i with
  | none => exact h.dom i _ hi hB0
  | some B => exact (h.own_at hB0 hi).2.1 hb
/-- The cells of what is appended. -/
theorem src_cells (h : Sim C st a w φ F) {hp : AHeap} (hh : ∀ id B, hp.get id = some B → st.H id = some B) {x : AV} {v : Value} {ys : List PV} {m size : Nat} (hs : srcOf hp x = some (ys, m)) (hv : VR φ F w x v)
    (hl : ys.length = m * size) :
    (∃ c, v = .slice none 0 c ∧ m = 0 ∧ ys = []) ∨ ∃ ad c, v = .slice (some ad) m c ∧ ∃ us : List Value, us.length = ys.length ∧ (∀ (j : Nat) (u : Value), us[j]? = some u → w.cell? (ad.add j) = some u) ∧
      (∀ u ∈ us, u.oneCell' = true) ∧ ∀ (j : Nat) (p : PV), ys[j]? = some p → ∃ u, us[j]? = some u ∧ RV w F u p := by
  have key : ∀ (ad : Addr), (∀ (j : Nat) (p : PV), ys[j]? = some p → ∃ u, w.cell? (ad.add j) = some u ∧ RV w F u p) → ∃ us : List Value, us.length = ys.length ∧ (∀ (j : Nat) (u : Value), us[j]? = some u → w.cell? (ad.add j) = some u) ∧
      (∀ u ∈ us, u.oneCell' = true) ∧ ∀ (j : Nat) (p : PV), ys[j]? = some p → ∃ u, us[j]? = some u ∧ RV w F u p := fun ad hc => by
    obtain ⟨us, h1, h2⟩ := cells_list (R := fun j u => w.cell? (ad.add j) = some u ∧ ∀ p, ys[j]? = some p → RV w F u p) ys.length fun j hj => by
      obtain ⟨u, h1, h2⟩ := hc j _ (List.getElem?_eq_getElem hj)
      exact ⟨u, h1, fun p hp => by rw [List.getElem?_eq_getElem hj] at hp; injection hp with hp; subst hp; exact h2⟩
    refine ⟨us, h1, fun j u hu => (h2 j u hu).1, fun u hu => ?_, fun j p hp => ?_⟩
    · obtain ⟨j, hj⟩ := List.getElem?_of_mem hu
      have hlt : j < ys.length := by rw [← h1]; exact (List.getElem?_eq_some_iff.1 hj).1
      exact ((h2 j u hj).2 _ (List.getElem?_eq_getElem hlt)).oneCell
    · have hlt : j < us.length := by rw [h1]; exact (List.getElem?_eq_some_iff.1 hp).1
      exact ⟨_, List.getElem?_eq_getElem hlt, (h2 j _ (List.getElem?_eq_getElem hlt)).2 p hp⟩
  unfold srcOf at hs
  split at hs
  · rename_i ys' m'
    injection hs with hs
    rw [Prod.mk.injEq] at hs
    obtain ⟨rfl, rfl⟩ := hs
    cases hv with
    | sl vs hn hc hz ha hr =>
      rename_i ad c
      cases ad with
      | none =>
        have hm := hz rfl
        subst hm
        exact .inl ⟨c, rfl, rfl, List.eq_nil_of_length_eq_zero (by simpa using hl)⟩
      | some ad =>
        refine .inr ⟨ad, c, rfl, key ad fun j p hp => ⟨vs j, ?_, hr j p hp⟩⟩
        obtain ⟨_, e, _, hcell⟩ := ha (by rintro rfl; simp at hp)
        injection e with e; subst e
        exact hcell j (List.getElem?_eq_some_iff.1 hp).1
  · injection hs with hs
    rw [Prod.mk.injEq] at hs
    obtain ⟨rfl, rfl⟩ := hs
    rw [VR] at hv
    exact .inl ⟨0, hv, rfl, rfl⟩
  · rename_i id m' sz
    split at hs
    · rename_i ty ys' hg
      injection hs with hs
      rw [Prod.mk.injEq] at hs
      obtain ⟨rfl, rfl⟩ := hs
      obtain ⟨y, hy, hsp⟩ := h.own id _ (hh _ _ hg)
      rcases hv y hy with ⟨rfl, rfl, rfl, _⟩ | ⟨b, N, c, rfl, rfl, h1, h2, h3⟩
      · obtain ⟨ty', e⟩ := hsp
        injection e with _ e; subst e
        exact .inl ⟨0, rfl, rfl, rfl⟩
      · obtain ⟨⟨cur, hcur, hN, hcl, hat⟩, _⟩ := hsp
        refine .inr ⟨_, c, rfl, key _ fun j p hp => ?_⟩
        obtain ⟨u, hu1, hu2⟩ := hat j p hp
        exact ⟨u, by rw [add_lit, cell_blk hcur, Nat.zero_add]; exact hu1, hu2⟩
    · cases hs
  · cases hs
theorem run_append_src_nil (t ty e : TypeId) (i : TypeInfo) (ht : P.underlying t = some (.slice e)) (hi : P.info? e = some i) (ao : Option Addr) (n c c' : Nat) (hn : n ≤ c) (hao : ao = none → n = 0 ∧ c = 0) :
    (Builtin.append_ #[t, t] ty #[.slice ao n c, .slice none 0 c']).run P w = .ok (.slice ao n c) w := by
  cases ao with
  | none =>
    obtain ⟨rfl, rfl⟩ := hao rfl
    simp [Builtin.append_, run_underlying ht, sizeOf, typeInfo, hi, Builtin.lenOf, Builtin.firstCells]
  | some ad => simp [Builtin.append_, run_underlying ht, sizeOf, typeInfo, hi, Builtin.lenOf, Builtin.firstCells, hn, storeCells]
theorem run_append_nil_zero (t ty e : TypeId) (i : TypeInfo) (ht : P.underlying t = some (.slice e)) (hi : P.info? e = some i) (ad : Addr) (c : Nat) :
    (Builtin.append_ #[t, t] ty #[.slice none 0 0, .slice (some ad) 0 c]).run P w = .ok (.slice none 0 0) w := by
  simp [Builtin.append_, run_underlying ht, sizeOf, typeInfo, hi, Builtin.lenOf, Builtin.firstCells, loadCells, loadCellsFrom]
theorem append_get {us vs : List Value} {zs : Array Value} {cs ys : List PV} {F' : Nat → Prop} {w' : World} (h1 : us.length = cs.length) (h2 : vs.length = ys.length)
    (hu : ∀ (j : Nat) (p : PV), cs[j]? = some p → ∃ u, us[j]? = some u ∧ RV w' F' u p) (hv : ∀ (j : Nat) (p : PV), ys[j]? = some p → ∃ u, vs[j]? = some u ∧ RV w' F' u p) :
    ∀ (j : Nat) (p : PV), (cs ++ ys)[j]? = some p → ∃ u, (us.toArray ++ vs.toArray ++ zs)[j]? = some u ∧ RV w' F' u p := fun j p hp => by
  by_cases hj : j < cs.length
  · rw [List.getElem?_append_left hj] at hp
    obtain ⟨u, q1, q2⟩ := hu j p hp
    refine ⟨u, ?_, q2⟩
    rw [Array.getElem?_append_left (by simp; omega), Array.getElem?_append_left (by simp; omega)]
    simpa using q1
  · rw [List.getElem?_append_right (by omega)] at hp
    obtain ⟨u, q1, q2⟩ := hv _ p hp
    have hlt := (List.getElem?_eq_some_iff.1 hp).1
    refine ⟨u, ?_, q2⟩
    rw [Array.getElem?_append_left (by simp; omega), Array.getElem?_append_right (by simp; omega)]
    simpa [h1] using q1
theorem semAppend_sound (h : Sim C st a w φ F) {ts : Array Nat} {dst : Option Nat} {orc : Orc} {hp : AHeap} (hh : ∀ id B, hp.get id = some B → st.H id = some B) {args : List AV} {u v : Value} {out : Out}
    (hs : semAppend P ts dst orc hp args = some out) (hc : out.cond) (hnew : ∀ id ∈ out.new, Fresh st id ∧ C.pin id = none) (hv : VRs φ F w args [u, v]) (ty : TypeId) :
    Makes P C st a w out (Builtin.append_ ts ty #[u, v]) := by
  unfold semAppend at hs
  split at hs
  case h_2 => cases hs
  rename_i s x
  obtain ⟨h1, h2⟩ := hv.two
  split at hs
  case isFalse => cases hs
  rename_i hts
  obtain ⟨t, rfl⟩ : ∃ t, ts = #[t, t] := by
    obtain ⟨hn, he⟩ := hts
    refine ⟨ts[0]'(by omega), Array.ext (by simp [hn]) fun i q1 q2 => ?_⟩
    rw [Array.getElem?_eq_getElem (by omega), Array.getElem?_eq_getElem (by omega)] at he
    injection he with he
    match i, q2 with
    | 0, _ => rfl
    | 1, _ => exact he.symm
  simp only [List.getElem?_toArray, List.getElem?_cons_zero, Option.bind_some] at hs
  split at hs
  case h_2 => cases hs
  rename_i e k ys m N hk hsrc hN
  obtain ⟨hu, hi⟩ := sliceOf_run hk
  split at hs
  case h_1 => cases hs
  rename_i z hz
  split at hs
  case isTrue => cases hs
  rename_i hsize
  have hks : 0 < k.size := by omega
  have hzs : z.cells.size = k.size := by omega
  -- what stands when the new block is laid
  have newBlock : ∀ (st' : St) (φ' : Phi) (us vs : List Value) (cs : List PV) (old : Nat), Sim C st' a w φ' F → Fresh st' N → C.pin N = none → us.length = cs.length → vs.length = ys.length →
      (∀ (j : Nat) (p : PV), cs[j]? = some p → ∃ u, us[j]? = some u ∧ RV w F u p) → (∀ (j : Nat) (p : PV), ys[j]? = some p → ∃ u, vs[j]? = some u ∧ RV w F u p) →
      ∀ n, cs.length = n * k.size → ys.length = m * k.size → n + m ≤ maxLen →
      let cur := us.toArray ++ vs.toArray ++ Builtin.zeroCells z.cells (grownCap w (n + m) old e - (n + m))
      let w' := w.drew.alloc (.cells cur e)
      let φ'' := φ'.set N (some (some (w.heap.size, ⟨cur.size, []⟩)))
      Sim C (st'.blk N (some (.row e (cs ++ ys)))) a w' φ'' F ∧ VR φ'' F w' (.own N 0 (n + m) k.size) (.slice (some ⟨w.heap.size, 0, none⟩) (n + m) (grownCap w (n + m) old e)) := by
    intro st' φ' us vs cs old hsim hf hpn hl1 hl2 hr1 hr2 n hn hm h63 cur w' φ''
    have hge := grownCap_ge w (n + m) old e
    have hcm := grownCap_le_maxLen w (n + m) old e h63
    have hsz : cur.size = grownCap w (n + m) old e * k.size := by
      simp only [cur, Array.size_append, List.size_toArray, size_zeroCells, hzs, hl1, hl2, hn, hm, ← Nat.add_mul]
      congr 1
      omega
    refine ⟨hsim.drew.allocRow hf hpn e ?_ (append_get hl1 hl2 (fun j p hp => (hr1 j p hp).imp fun q hq => ⟨hq.1, hq.2.keep (w' := w.drew) (fun _ k => k) (fun _ _ => rfl)⟩) (fun j p hp => (hr2 j p hp).imp fun q hq => ⟨hq.1, hq.2.keep (w' := w.drew) (fun _ k => k) (fun _ _ => rfl)⟩)), fun y hy => ?_⟩
    · rw [List.length_append, hsz, hn, hm, ← Nat.add_mul]
      exact Nat.mul_le_mul_right _ hge
    · simp only [φ'', Phi.set_eq] at hy
      injection hy with hy; subst hy
      exact .inr ⟨_, _, _, rfl, rfl, hge, hcm, by rw [Nat.zero_add, hsz]; exact Nat.le_refl _⟩
  -- an empty source or target without a block
  have fromNil : ∀ (st' : St) (φ' : Phi), u = .slice none 0 0 → Sim C st' a w φ' F → Fresh st' N → C.pin N = none → ys.length = m * k.size → m * k.bytes ≤ 140737488355328 → m ≤ 9223372036854775807 →
      ∃ r w' φ'', (Builtin.append_ #[t, t] ty #[u, v]).run P w = .ok r w' ∧ Sim C (st'.blk N (some (.row e ys))) a w' φ'' F ∧ VR φ'' F w' (.own N 0 m k.size) r := by
    rintro st' φ' rfl hsim hf hpn hyl hby hm63
    rcases src_cells h hh hsrc h2 hyl with ⟨c, rfl, rfl, rfl⟩ | ⟨ad, c, rfl, vs, hvl, hvc, hvo, hvr⟩
    · refine ⟨_, w, _, run_append_src_nil t ty e k hu hi none 0 0 c (Nat.le_refl _) (fun _ => ⟨rfl, rfl⟩), hsim.bare e hf hpn, fun y hy => ?_⟩
      rw [Phi.set_eq] at hy; injection hy with hy; subst hy
      exact .inl ⟨rfl, rfl, rfl, rfl⟩
    · rcases Nat.eq_zero_or_pos m with rfl | hm0
      · have hye : ys = [] := List.eq_nil_of_length_eq_zero (by simpa using hyl)
        subst hye
        refine ⟨_, w, _, run_append_nil_zero t ty e k hu hi ad c, hsim.bare e hf hpn, fun y hy => ?_⟩
        rw [Phi.set_eq] at hy; injection hy with hy; subst hy
        exact .inl ⟨rfl, rfl, rfl, rfl⟩
      · have hr := run_append_nil (P := P) w t ty e k z hu hi hz ad m c vs (by omega) hvc hm0 (by omega) (by omega)
        have := newBlock st' φ' [] vs [] 0 hsim hf hpn rfl hvl (fun j p hp => by simp at hp) hvr 0 (by simp) hyl (by simp only [maxLen]; omega)
        simp only [List.nil_append, Nat.zero_add, Array.empty_append] at this
        exact ⟨_, _, _, hr, this.1, this.2⟩
  split at hs
  · injection hs with hs; subst hs
    obtain ⟨c1, c2, c3⟩ := (show ys.length = m * k.size ∧ m * k.bytes ≤ 140737488355328 ∧ m ≤ 9223372036854775807 from hc)
    obtain ⟨hf, hpn⟩ := hnew N (by simp)
    rw [VR] at h1
    obtain ⟨r, w', φ'', q1, q2, q3⟩ := fromNil st φ h1 h hf hpn c1 c2 c3
    exact ⟨r, w', φ'', F, q1, q2, _, rfl, q3⟩
  · rename_i id n sz
    split at hs
    case h_2 => cases hs
    rename_i e' cs hg
    split at hs
    case isFalse => cases hs
    rename_i hcond
    obtain ⟨rfl, rfl, hidN, hxid⟩ := hcond
    injection hs with hs; subst hs
    obtain ⟨c1, c2, c3, c4⟩ := (show cs.length = n * k.size ∧ ys.length = m * k.size ∧ (n + m) * k.bytes ≤ 140737488355328 ∧ n + m ≤ 9223372036854775807 from hc)
    obtain ⟨hf, hpn⟩ := hnew N (by simp)
    have hst := hh _ _ hg
    obtain ⟨y, hy, hsp⟩ := h.own id _ hst
    have hkill := h.kill id
    rcases h1 y hy with ⟨rfl, rfl, rfl, _⟩ | ⟨b, NN, c, rfl, rfl, b1, b2, b3⟩
    · have hce : cs = [] := List.eq_nil_of_length_eq_zero (by simpa using c1)
      subst hce
      simp only [Nat.zero_add, List.nil_append] at c3 c4 ⊢
      obtain ⟨r, w', φ'', q1, q2, q3⟩ := fromNil (st.blk id none) _ rfl hkill (hf.kill id) hpn c2 c3 c4
      exact ⟨r, w', φ'', F, q1, q2, _, rfl, q3⟩
    · obtain ⟨⟨cur, hcur, ⟨hNN, hND⟩, hcl, hat⟩, hnF, hG⟩ := hsp
      obtain ⟨y', hy', hsp', hre⟩ := h.rebind hst hf hpn (Ne.symm hidN)
      rw [hy] at hy'; injection hy' with hy'; subst hy'
      rcases src_cells h hh hsrc h2 c2 with ⟨c', rfl, rfl, rfl⟩ | ⟨ad, c', rfl, vs, hvl, hvc, hvo, hvr⟩
      · refine ⟨_, w, _, F, run_append_src_nil t ty e k hu hi (some ⟨b, 0, none⟩) n c c' b1 (fun q => by cases q), by simpa [St.on] using hre, _, rfl, fun y hy => ?_⟩
        rw [Phi.set_eq] at hy; injection hy with hy; subst hy
        exact .inr ⟨_, _, _, rfl, rfl, b1, b2, b3⟩
      · by_cases hroom : n + m ≤ c
        · have hfit : n * k.size + vs.length ≤ cur.size := by
            have := Nat.mul_le_mul_right k.size hroom
            rw [Nat.add_mul] at this
            omega
          have hr := run_append_room (P := P) w t ty e k hu hi b n c cur hcur ad m c' vs (by omega) hvc hvo hroom hfit
          have g1 := splice_size cur vs (n * k.size) hfit
          have g2 := splice_get cur vs (n * k.size) hfit
          generalize hcur' : (cur.toList.take (n * k.size) ++ vs ++ cur.toList.drop (n * k.size + vs.length)).toArray = cur' at hr g1 g2
          have hkF : KeptF F w (w.setRow b cur') := fun q hq => setRow_other w b q _ (fun e => hnF (e ▸ hq))
          have hw := hre.setRow (id := N) (B' := .row e (cs ++ ys)) (cur' := cur') Phi.set_eq hND ⟨cur', setRow_heap w b cur _ e _ hcur, ⟨by omega, hND⟩, by
              have := Nat.mul_le_mul_right k.size hroom
              rw [Nat.add_mul] at this
              rw [List.length_append]; omega, fun j p hp => by
            rw [g2]
            by_cases hj : j < cs.length
            · rw [List.getElem?_append_left hj] at hp
              rw [if_neg (by omega)]
              obtain ⟨q, q1, q2⟩ := hat j p hp
              exact ⟨q, q1, q2.keep (fun _ k => k) hkF⟩
            · rw [List.getElem?_append_right (by omega)] at hp
              have hlt := (List.getElem?_eq_some_iff.1 hp).1
              rw [if_pos (by omega), ← c1]
              obtain ⟨q, q1, q2⟩ := hvr _ p hp
              exact ⟨q, q1, q2.keep (fun _ k => k) hkF⟩⟩
          refine ⟨_, _, (φ.set id none).set N (some (some (b, NN))), F, hr, ?_, _, rfl, fun y hy => ?_⟩
          · have e1 : ((st.blk id none).blk N (some (.row e cs))).blk N (some (.row e (cs ++ ys))) = (st.blk id none).blk N (some (.row e (cs ++ ys))) := by
              simp only [St.blk]; congr 1; funext i; by_cases hi : i = N <;> simp [hi]
            rw [e1] at hw
            simpa [St.on] using hw
          · rw [Phi.set_eq] at hy; injection hy with hy; subst hy
            exact .inr ⟨_, _, _, rfl, rfl, hroom, b2, b3⟩
        · obtain ⟨us, hul, huc⟩ := cells_list (R := fun j q => cur[j]? = some q ∧ ∀ p, cs[j]? = some p → RV w F q p) cs.length fun j hj => by
            obtain ⟨q, q1, q2⟩ := hat j _ (List.getElem?_eq_getElem hj)
            exact ⟨q, q1, fun p hp => by rw [List.getElem?_eq_getElem hj] at hp; injection hp with hp; subst hp; exact q2⟩
          have holds : ∀ (j : Nat) (q : Value), us[j]? = some q → w.cell? ((⟨b, 0, none⟩ : Addr).add j) = some q := fun j q hq => by
            rw [add_lit, cell_blk hcur, Nat.zero_add]; exact (huc j q hq).1
          have hr := run_append_grow (P := P) w t ty e k z hu hi hz ⟨b, 0, none⟩ n c us (by omega) holds ad m c' vs (by omega) hvc (by omega) (by omega) (growslice_fits (by omega) c3)
          have := newBlock (st.blk id none) _ us vs cs c hkill (hf.kill id) hpn hul hvl (fun j p hp => by
            have hlt := (List.getElem?_eq_some_iff.1 hp).1
            exact ⟨_, List.getElem?_eq_getElem (by omega), (huc j _ (List.getElem?_eq_getElem (by omega))).2 p hp⟩) hvr n c1 c2 (by simp only [maxLen]; omega)
          exact ⟨_, _, _, F, hr, this.1, _, rfl, this.2⟩
  · cases hs
end
end Go.AM
end
section
namespace Go.AM
open Go Go.RowKit
section
variable {P : Program} {C : Ctx} {st : St} {a : Act} {w : World} {φ : Phi} {F : Nat → Prop}
theorem run_len_slice' {t e : Nat} (hu : P.underlying t = some (.slice e)) (ao : Option Addr) (n c ty : Nat) (w : World) : (Builtin.len_ #[t] ty #[.slice ao n c]).run P w = .ok (.int .i64 n) w := by
  simp [Builtin.len_, run_underlying hu, goInt]
theorem run_len_string' {t : Nat} (hu : P.underlying t = some .string) (s : ByteArray) (ty : Nat) (w : World) : (Builtin.len_ #[t] ty #[.string s]).run P w = .ok (.int .i64 s.size) w := by
  simp [Builtin.len_, run_underlying hu, goInt]
theorem semLen_sound (h : Sim C st a w φ F) {t : Nat} {hp : AHeap} (hh : ∀ id B, hp.get id = some B → st.H id = some B) {args : List AV} {u : Value} {out : Out} (hs : semLen P t hp args = some out) (hv : VRs φ F w args [u]) (ty : Nat) :
    Yields P φ F w out (Builtin.len_ #[t] ty #[u]) := by
  unfold semLen at hs
  split at hs
  · have h1 := hv.one
    split at hs
    · rename_i e hu
      cases h1 with
      | sl vs hn hc hz ha hr => exact .mk hs (run_len_slice' hu _ _ _ ty w) (.mkInt (by simp only [InR, maxLen] at *; omega))
    · cases hs
  · rename_i id _ n _
    have h1 := hv.one
    split at hs
    · rename_i e B hu hB
      obtain ⟨x, hx⟩ := h.live (hh _ _ hB)
      rcases h1 x hx with ⟨_, rfl, rfl, _⟩ | ⟨b, N, c, _, rfl, b1, b2, _⟩
      · exact .mk hs (run_len_slice' hu _ _ _ ty w) (.mkInt (by simp [InR]))
      · exact .mk hs (run_len_slice' hu _ _ _ ty w) (.mkInt (by simp only [InR, maxLen] at *; omega))
    · cases hs
  · have h1 := hv.one
    rw [VR] at h1; subst h1
    split at hs
    · rename_i e hu
      exact .mk hs (run_len_slice' hu _ _ _ ty w) (.mkInt (by simp [InR]))
    · cases hs
  · obtain ⟨rfl, h2⟩ := hv.one.str_of
    split at hs
    · rename_i hu
      exact .mk hs (run_len_string' hu _ ty w) (.mkInt (by simp only [InR, maxLen] at *; omega))
    · cases hs
  · cases hs
theorem run_part_one {t : Nat} (h : aggT P t = some false) {cs : Array Value} {o : Nat} {v : Value} (hv : cs[o]? = some v) (w : World) : (part t cs o).run P w = .ok v w := by
  simp [part, run_isAgg h, hv]
theorem run_part_agg {t : Nat} (h : aggT P t = some true) (hp : 0 < P.cellsOf t) (cs : Array Value) (o : Nat) (w : World) : (part t cs o).run P w = .ok (.agg (cs.extract o (o + P.cellsOf t))) w := by
  simp [part, run_isAgg h, run_sizeOf hp]
theorem semField_sound {s f : Nat} {args : List AV} {u : Value} {out : Out} (hs : semField P s f args = some out) (hv : VRs φ F w args [u]) : Yields P φ F w out (Instr.field s u f) := by
  unfold semField at hs
  split at hs
  case h_2 => cases hs
  rename_i cs
  obtain ⟨us, rfl, h1, h2⟩ := hv.one
  split at hs
  case h_2 => cases hs
  rename_i o t hf
  obtain ⟨fs, x, hu, hx, rfl, rfl, hp⟩ := fieldOf_run hf
  have hrun : ∀ v, (part x.type us.toArray x.offset).run P w = .ok v w → (Instr.field s (.agg us.toArray) f).run P w = .ok v w := fun v hv => by
    simp [Instr.field, run_underlying hu, hx, asAgg, hv]
  split at hs
  · rename_i ha
    split at hs
    case isFalse => cases hs
    rename_i hl
    have hul := h1.length
    refine .mk hs (hrun _ (run_part_agg ha hp _ _ w)) ⟨(us.drop x.offset).take (P.cellsOf x.type), by simp, VRs.mk (by simp [hul]) fun j y v hy hv => ?_, fun v hv => h2 v (List.mem_of_mem_drop (List.mem_of_mem_take hv))⟩
    rw [List.getElem?_take] at hy hv
    split at hy
    · rename_i hj
      rw [if_pos hj] at hv
      rw [List.getElem?_drop] at hy hv
      obtain ⟨z, z1, z2⟩ := h1.get _ _ hy
      rw [z1] at hv; injection hv with hv; subst hv; exact z2
    · cases hy
  · rename_i ha
    split at hs
    · rename_i y hy
      obtain ⟨z, z1, z2⟩ := h1.get _ _ hy
      exact .mk hs (hrun _ (run_part_one ha (by simpa using z1) w)) z2
    · cases hs
  · cases hs
theorem run_bound {k : IntKind} {i : Int} {y : Nat} {code : BoundsCode} (h0 : 0 ≤ i) (h1 : i ≤ y) (w : World) : (Instr.sliceBound (.int k i) y code).run P w = .ok i.toNat w := by
  simp [Instr.sliceBound, asIntOf, h0, h1]
theorem RV.cut {ao : Option Addr} {n c : Nat} {cs : List PV} (h : RV w F (.slice ao n c) (.sl cs n)) {l m d : Nat} (hl : l ≤ m) (hm : m ≤ n) {cs' : List PV} (hcs : ∀ (j : Nat) (p : PV), cs'[j]? = some p → cs[d + j]? = some p) (hne : l = m → cs' = []) :
    RV w F (.slice (if c = l then ao else ao.map (·.add d)) (m - l) (c - l)) (.sl cs' (m - l)) := by
  cases h with
  | sl vs hn hc hz ha hr =>
    refine .sl (fun j => vs (d + j)) (by omega) (by omega) (fun e => ?_) (fun hne' => ?_) fun j p hp => hr _ p (hcs j p hp)
    · split at e
      · omega
      · have := hz (by simpa using e); omega
    · have hlt : l < m := by
        rcases Nat.lt_or_ge l m with h | h
        · exact h
        · exact absurd (hne (by omega)) hne'
      obtain ⟨p, q, rfl⟩ : ∃ p q, cs' = p :: q := by
        cases cs' with
        | nil => exact absurd rfl hne'
        | cons p q => exact ⟨p, q, rfl⟩
      have h0 := hcs 0 p rfl
      have hcsne : cs ≠ [] := by rintro rfl; simp at h0
      obtain ⟨ad, e, hF, hcell⟩ := ha hcsne
      subst e
      rw [if_neg (by omega)]
      refine ⟨ad.add d, rfl, by rw [block_add]; exact hF, fun j hj => ?_⟩
      rw [add_add]
      obtain ⟨x, hx⟩ : ∃ x, (p :: q)[j]? = some x := ⟨_, List.getElem?_eq_getElem hj⟩
      exact hcell _ (List.getElem?_eq_some_iff.1 (hcs j x hx)).1
theorem run_sliceAt_s {t e : Nat} {k : TypeInfo} (hk : sliceOf P t = some (e, k)) (ao : Option Addr) (n c : Nat) (lo hi : Option Value) (l m : Nat)
    (hb : ∀ w : World, (Instr.sliceBounds true n c lo hi none).run P w = .ok (l, m, c) w) (w : World) :
    (Instr.sliceAt t (.slice ao n c) lo hi none).run P w = .ok (.slice (if c = l then ao else ao.map (·.add (l * k.size))) (m - l) (c - l)) w := by
  obtain ⟨hu, hi⟩ := sliceOf_run hk
  simp [Instr.sliceAt, Instr.slice, run_underlying hu, hb, sizeOf, typeInfo, hi]
theorem run_sliceAt_str {t : Nat} (hu : P.underlying t = some .string) (s : ByteArray) (lo hi : Option Value) (l m : Nat)
    (hb : ∀ w : World, (Instr.sliceBounds false s.size s.size lo hi none).run P w = .ok (l, m, s.size) w) (w : World) :
    (Instr.sliceAt t (.string s) lo hi none).run P w = .ok (.string (s.extract l m)) w := by
  simp [Instr.sliceAt, Instr.slice, run_underlying hu, hb]
theorem str_extract_le (s : ByteArray) (l m : Nat) (h : s.size ≤ maxLen) : (s.extract l m).size ≤ maxLen := by
  rw [ByteArray.size_extract]; omega
def optArg (b : Bool) (vs : List Value) : Option Value × List Value :=
  if b then match vs with | v :: r => (some v, r) | [] => (none, []) else (none, vs)
/-- 'x[lo:hi]' as the operation has it: its operands in order. -/
theorem semSlice_sound (_h : Sim C st a w φ F) {t : Nat} {args : List AV} {u : Value} {lo hi mx : Option Value} {out : Out} (hs : semSlice P t lo.isSome hi.isSome mx.isSome args = some out) (hc : out.cond)
    (hlive : ∀ x ∈ args, Live φ x) (hv : VRs φ F w args ([u] ++ lo.toList ++ hi.toList ++ mx.toList)) : Yields P φ F w out (Instr.sliceAt t u lo hi mx) := by
  unfold semSlice at hs
  split at hs
  · rename_i cs n bs
    split at hs
    · rename_i e k ik hi' hk h1 h2 h3
      obtain rfl : lo = none := by simpa using h1
      obtain rfl : mx = none := by simpa using h3
      obtain ⟨v, rfl⟩ := Option.isSome_iff_exists.1 h2
      obtain ⟨q1, q2⟩ := hv.two
      obtain ⟨rfl, _⟩ := q2.int_of
      injection hs with hs; subst hs
      obtain ⟨c1, c2⟩ := (show 0 ≤ hi' ∧ hi' ≤ n from hc)
      cases q1 with
      | sl vs hn hcc hz ha hr =>
        rename_i ao c
        have hrv : RV w F (.slice ao n c) (.sl cs n) := .sl vs hn hcc hz ha hr
        have q := hrv.cut (l := 0) (m := hi'.toNat) (d := 0 * k.size) (cs' := cs.take (hi'.toNat * k.size)) (Nat.zero_le _) (by omega) (fun j p hp => by
          rw [List.getElem?_take] at hp
          split at hp
          · simpa using hp
          · cases hp) (fun e => by rw [← e]; simp)
        exact ⟨rfl, _, run_sliceAt_s hk ao n c none _ 0 hi'.toNat (fun w => by simp [Instr.sliceBounds, run_bound c1 (show hi' ≤ (c : Int) by omega)]) w, _, rfl, by rw [VR]; simpa using q⟩
    · rename_i e k ik lo' hk h1 h2 h3
      obtain rfl : hi = none := by simpa using h2
      obtain rfl : mx = none := by simpa using h3
      obtain ⟨v, rfl⟩ := Option.isSome_iff_exists.1 h1
      obtain ⟨q1, q2⟩ := hv.two
      obtain ⟨rfl, _⟩ := q2.int_of
      injection hs with hs; subst hs
      obtain ⟨c1, c2, c3⟩ := (show 0 ≤ lo' ∧ lo' ≤ n ∧ cs.length = n * k.size from hc)
      cases q1 with
      | sl vs hn hcc hz ha hr =>
        rename_i ao c
        have hrv : RV w F (.slice ao n c) (.sl cs n) := .sl vs hn hcc hz ha hr
        have q := hrv.cut (l := lo'.toNat) (m := n) (d := lo'.toNat * k.size) (cs' := cs.drop (lo'.toNat * k.size)) (by omega) (Nat.le_refl _) (fun j p hp => by rwa [List.getElem?_drop] at hp)
          (fun e => by apply List.drop_eq_nil_of_le; rw [c3, e]; exact Nat.le_refl _)
        exact ⟨rfl, _, run_sliceAt_s hk ao n c _ none lo'.toNat n (fun w => by simp [Instr.sliceBounds, run_bound c1 (show lo' ≤ (n : Int) by omega)]) w, _, rfl, q⟩
    · rename_i e k ik lo' ik' hi' hk h1 h2 h3
      obtain rfl : mx = none := by simpa using h3
      obtain ⟨v, rfl⟩ := Option.isSome_iff_exists.1 h1
      obtain ⟨v', rfl⟩ := Option.isSome_iff_exists.1 h2
      obtain ⟨q1, q2, q3⟩ := hv.three
      obtain ⟨rfl, _⟩ := q2.int_of
      obtain ⟨rfl, _⟩ := q3.int_of
      injection hs with hs; subst hs
      obtain ⟨c1, c2, c3⟩ := (show 0 ≤ lo' ∧ lo' ≤ hi' ∧ hi' ≤ (n : Int) from hc)
      cases q1 with
      | sl vs hn hcc hz ha hr =>
        rename_i ao c
        have hrv : RV w F (.slice ao n c) (.sl cs n) := .sl vs hn hcc hz ha hr
        have q := hrv.cut (l := lo'.toNat) (m := hi'.toNat) (d := lo'.toNat * k.size) (cs' := (cs.take (hi'.toNat * k.size)).drop (lo'.toNat * k.size)) (by omega) (by omega) (fun j p hp => by
          rw [List.getElem?_drop, List.getElem?_take] at hp
          split at hp
          · exact hp
          · cases hp) (fun e => by apply List.drop_eq_nil_of_le; rw [List.length_take, e]; exact Nat.min_le_left _ _)
        exact ⟨rfl, _, run_sliceAt_s hk ao n c _ _ lo'.toNat hi'.toNat (fun w => by simp [Instr.sliceBounds, run_bound (show 0 ≤ hi' by omega) (show hi' ≤ (c : Int) by omega), run_bound c1 (show lo' ≤ ((hi'.toNat : Nat) : Int) by omega)]) w, _, rfl, q⟩
    · cases hs
  · rename_i id off n sz bs
    split at hs
    · rename_i e k ik hi' hk h1 h2 h3
      obtain rfl : lo = none := by simpa using h1
      obtain rfl : mx = none := by simpa using h3
      obtain ⟨v, rfl⟩ := Option.isSome_iff_exists.1 h2
      obtain ⟨q1, q2⟩ := hv.two
      obtain ⟨rfl, _⟩ := q2.int_of
      split at hs
      case isFalse => cases hs
      rename_i hsz
      injection hs with hs; subst hs
      obtain ⟨c1, c2⟩ := (show 0 ≤ hi' ∧ hi' ≤ n from hc)
      obtain ⟨x, hx⟩ := hlive (.own id off n sz) (by simp) id (by simp [AV.ids])
      rcases q1 x hx with ⟨rfl, rfl, rfl, rfl⟩ | ⟨b, N, c, rfl, rfl, b1, b2, b3⟩
      · have h0 : hi' = 0 := by omega
        subst h0
        refine ⟨rfl, _, run_sliceAt_s hk none 0 0 none _ 0 0 (fun w => by simp [Instr.sliceBounds, run_bound (P := P) (Int.le_refl 0) (show (0 : Int) ≤ ((0 : Nat) : Int) by omega)]) w, _, rfl, fun y hy => ?_⟩
        rw [hx] at hy; injection hy with hy; subst hy
        exact .inl ⟨rfl, by simp, rfl, rfl⟩
      · refine ⟨rfl, _, run_sliceAt_s hk (some ⟨b, off, none⟩) n c none _ 0 hi'.toNat (fun w => by simp [Instr.sliceBounds, run_bound c1 (show hi' ≤ (c : Int) by omega)]) w, _, rfl, fun y hy => ?_⟩
        rw [hx] at hy; injection hy with hy; subst hy
        refine .inr ⟨b, N, c, rfl, ?_, by omega, b2, b3⟩
        by_cases hc0 : c = 0 <;> simp [hc0, Addr.add]
    · cases hs
  · rename_i s bs
    split at hs
    · rename_i ik hi' hu h1 h2 h3
      obtain rfl : lo = none := by simpa using h1
      obtain rfl : mx = none := by simpa using h3
      obtain ⟨v, rfl⟩ := Option.isSome_iff_exists.1 h2
      obtain ⟨q1, q2⟩ := hv.two
      obtain ⟨rfl, _⟩ := q2.int_of
      obtain ⟨rfl, hsz⟩ := q1.str_of
      injection hs with hs; subst hs
      obtain ⟨c1, c2⟩ := (show 0 ≤ hi' ∧ hi' ≤ s.size from hc)
      exact ⟨rfl, _, run_sliceAt_str hu s none _ 0 hi'.toNat (fun w => by simp [Instr.sliceBounds, run_bound c1 c2]) w, _, rfl, .str (str_extract_le s _ _ hsz)⟩
    · rename_i ik lo' hu h1 h2 h3
      obtain rfl : hi = none := by simpa using h2
      obtain rfl : mx = none := by simpa using h3
      obtain ⟨v, rfl⟩ := Option.isSome_iff_exists.1 h1
      obtain ⟨q1, q2⟩ := hv.two
      obtain ⟨rfl, _⟩ := q2.int_of
      obtain ⟨rfl, hsz⟩ := q1.str_of
      injection hs with hs; subst hs
      obtain ⟨c1, c2⟩ := (show 0 ≤ lo' ∧ lo' ≤ s.size from hc)
      exact ⟨rfl, _, run_sliceAt_str hu s _ none lo'.toNat s.size (fun w => by simp [Instr.sliceBounds, run_bound c1 c2]) w, _, rfl, .str (str_extract_le s _ _ hsz)⟩
    · rename_i ik lo' ik' hi' hu h1 h2 h3
      obtain rfl : mx = none := by simpa using h3
      obtain ⟨v, rfl⟩ := Option.isSome_iff_exists.1 h1
      obtain ⟨v', rfl⟩ := Option.isSome_iff_exists.1 h2
      obtain ⟨q1, q2, q3⟩ := hv.three
      obtain ⟨rfl, _⟩ := q2.int_of
      obtain ⟨rfl, _⟩ := q3.int_of
      obtain ⟨rfl, hsz⟩ := q1.str_of
      injection hs with hs; subst hs
      obtain ⟨c1, c2, c3⟩ := (show 0 ≤ lo' ∧ lo' ≤ hi' ∧ hi' ≤ s.size from hc)
      exact ⟨rfl, _, run_sliceAt_str hu s _ _ lo'.toNat hi'.toNat (fun w => by simp [Instr.sliceBounds, run_bound (show 0 ≤ hi' by omega) c3, run_bound c1 (show lo' ≤ ((hi'.toNat : Nat) : Int) by omega)]) w, _, rfl, .str (str_extract_le s _ _ hsz)⟩
    · cases hs
  · cases hs
theorem semMakeSlice_sound (h : Sim C st a w φ F) {t : Nat} {dst : Option Nat} {orc : Orc} {args : List AV} {u v : Value} {out : Out} (hs : semMakeSlice P t dst orc args = some out) (hc : out.cond)
    (hnew : ∀ id ∈ out.new, Fresh st id ∧ C.pin id = none) (hv : VRs φ F w args [u, v]) : Makes P C st a w out (Instr.makeSlice t u v) := by
  unfold semMakeSlice at hs
  split at hs
  case h_2 => cases hs
  rename_i l c
  obtain ⟨h1, h2⟩ := hv.two
  obtain ⟨rfl, _⟩ := h1.int_of
  obtain ⟨rfl, _⟩ := h2.int_of
  split at hs
  case h_2 => cases hs
  rename_i e k N hk hN
  obtain ⟨hu, hi⟩ := sliceOf_run hk
  split at hs
  case h_2 => cases hs
  rename_i z hz
  obtain ⟨it, zv, g1, g2, g3⟩ := zeroCells_run hz
  rw [hi] at g1; injection g1 with g1; subst g1
  split at hs
  case h_2 => cases hs
  rename_i zs hzs
  split at hs
  case isFalse => cases hs
  rename_i hlen
  injection hs with hs; subst hs
  obtain ⟨c1, c2, c3, c4⟩ := (show 0 ≤ l ∧ l ≤ c ∧ (k.bytes : Int) * c ≤ 281474976710656 ∧ c ≤ 9223372036854775807 from hc)
  obtain ⟨hf, hpn⟩ := hnew N (by simp)
  have hr := run_make (P := P) w t e k zv hu hi g2 .i64 .i64 l c c1 c2 c3 c4
  have hzl := pures_length hzs
  have hzv : zv.cells.size = k.size := by
    have := (mapM_vrs (φ := φ) (F := F) (w := w) g3).length
    simp at this; omega
  have hle : l.toNat * k.size ≤ c.toNat * k.size := Nat.mul_le_mul_right _ (by omega)
  have q := h.allocRow hf hpn (cur := madeCells zv.cells (c.toNat * k.size)) (ps := (List.replicate l.toNat zs).flatten) e (by rw [size_madeCells, flat_length, hlen.1]; exact hle) fun j p hp => by
    rw [flat_get, hlen.1] at hp
    split at hp
    · rename_i hj
      obtain ⟨x, x1, x2⟩ := pures_rv hzs (mapM_vrs (φ := φ) (F := F) (w := w) g3) _ _ hp
      refine ⟨x, ?_, x2⟩
      unfold madeCells
      rw [made_get _ _ _ (by omega), if_pos (by omega), hzv]
      simpa using x1
    · cases hp
  refine ⟨_, _, _, _, hr, by simpa [St.on] using q, _, rfl, fun y hy => ?_⟩
  rw [Phi.set_eq] at hy; injection hy with hy; subst hy
  exact .inr ⟨_, _, c.toNat, rfl, rfl, by omega, by simp only [maxLen]; omega, by rw [size_madeCells]; show 0 + c.toNat * k.size ≤ c.toNat * k.size; omega⟩
end
end Go.AM
end
section
namespace Go.AM
open Go Go.RowKit
def HeapOK (φ : Phi) (F : Nat → Prop) (w : World) (h : AHeap) : Prop :=
  ∀ id B, h.get id = some B → ∃ x, φ id = some x ∧ match x with
    | none => ∃ ty, B = .row ty []
    | some (b, N) => BR φ F w b N B ∧ ¬ F b
structure After (w : World) (φ : Phi) (F : Nat → Prop) (w' : World) (φ' : Phi) (F' : Nat → Prop) (h' : AHeap) : Prop where
  os : w'.os = w.os
  tape : w'.tape = w.tape
  output : w'.output = w.output
  size : w.heap.size ≤ w'.heap.size
  old : ∀ b, b < w.heap.size → (∀ id b' N, φ id = some (some (b', N)) → b ≠ b' ∧ b ∉ N.D) → w'.heap[b]? = w.heap[b]?
  Fi : ∀ b, F b → F' b
  Fd : ∀ b, F' b → b < w'.heap.size ∧ (F b ∨ (∃ id b' N, φ id = some (some (b', N)) ∧ (b = b' ∨ b ∈ N.D)) ∨ w.heap.size ≤ b)
  heap : HeapOK φ' F' w' h'
  place : ∀ id b N, φ' id = some (some (b, N)) → ∀ c, c = b ∨ c ∈ N.D → (∃ i b' N', φ i = some (some (b', N')) ∧ (c = b' ∨ c ∈ N'.D)) ∨ w.heap.size ≤ c
  dom : ∀ id x, φ' id = some x → h'.get id ≠ none
  inj : ∀ id id' b N N', φ' id = some (some (b, N)) → φ' id' = some (some (b, N')) → id = id'
  sep : ∀ id id' b b' N N' c, φ' id = some (some (b, N)) → φ' id' = some (some (b', N')) → c ∈ N.D → c = b' ∨ c ∈ N'.D → id = id' ∧ c ≠ b'
  Dok : ∀ id b N, φ' id = some (some (b, N)) → ∀ c ∈ N.D, c < w'.heap.size ∧ ¬ F' c
  pin : ∀ id x, φ id = some x → h'.get id ≠ none → ∃ y, φ' id = some y ∧ Like x y
def Callable (P : Program) (f : Nat) : Prop := ∃ fn, P.funcs[f]? = some fn ∧ fn.body.isNone = false ∧ (fn.name == "runtime.NumGoroutine") = false
/-- WHAT A FUNCTION DOES: called with args, where the blocks h are the caller's to give, it returns res and leaves h' in their place; of all other memory it only adds. -/
def ASpec (P : Program) (f : Nat) (args : List AV) (h : AHeap) (res : AV) (h' : AHeap) : Prop :=
  Callable P f ∧ ∀ (w : World) (vs : List Value) (φ : Phi) (F : Nat → Prop), (∀ b, F b → b < w.heap.size) → HeapOK φ F w h → (∀ id x, φ id = some x → h.get id ≠ none) →
    (∀ id id' b N N', φ id = some (some (b, N)) → φ id' = some (some (b, N')) → id = id') →
    (∀ id id' b b' N N' c, φ id = some (some (b, N)) → φ id' = some (some (b', N')) → c ∈ N.D → c = b' ∨ c ∈ N'.D → id = id' ∧ c ≠ b') →
    (∀ id b N, φ id = some (some (b, N)) → ∀ c ∈ N.D, c < w.heap.size ∧ ¬ F c) → VRs φ F w args vs →
    Calls P f vs.toArray w fun e w' => ∃ v φ' F', e = .returned v ∧ After w φ F w' φ' F' h' ∧ VR φ' F' w' res v
section
variable {P : Program} {C : Ctx} {st : St} {a : Act} {w : World} {φ : Phi} {F : Nat → Prop}
theorem on_append (l1 l2 : List (Nat × Option ABlk)) : ∀ (st : St), st.on (l1 ++ l2) = (st.on l1).on l2 := by
  induction l1 with
  | nil => intro st; rfl
  | cons x l1 ih => intro st; obtain ⟨id, B⟩ := x; exact ih _
theorem on_σ (l : List (Nat × Option ABlk)) : ∀ (st : St), (st.on l).σ = st.σ := by
  induction l with
  | nil => intro st; rfl
  | cons x l ih => intro st; obtain ⟨id, B⟩ := x; exact ih _
theorem on_fp (fp : List Nat) : ∀ (st : St) (id : Nat), (st.on (fp.map fun i => (i, none))).H id = if id ∈ fp then none else st.H id := by
  induction fp with
  | nil => intro st id; simp [St.on]
  | cons i fp ih =>
    intro st id
    simp only [List.map_cons, St.on]
    rw [ih]
    by_cases h : id ∈ fp
    · simp [h]
    · by_cases h2 : id = i <;> simp [h, h2, St.blk]
theorem get_none_of_keys : ∀ {h : AHeap} {id : Nat}, id ∉ h.map (·.1) → h.get id = none
  | [], _, _ => rfl
  | (i, B) :: h, id, hn => by
    simp only [List.map_cons, List.mem_cons, not_or] at hn
    simp only [AHeap.get]
    rw [if_neg (by rw [Nat.beq_eq]; exact fun e => hn.1 e.symm)]
    exact get_none_of_keys hn.2
theorem get_keys {h : AHeap} {id : Nat} {B : ABlk} (hg : h.get id = some B) : id ∈ h.map (·.1) := by
  refine Classical.byContradiction fun hn => ?_
  rw [get_none_of_keys hn] at hg; cases hg
theorem on_add : ∀ (h : AHeap), (h.map (·.1)).Nodup → ∀ (st : St) (id : Nat), (st.on (h.map fun x => (x.1, some x.2))).H id = match h.get id with | some B => some B | none => st.H id
  | [], _, st, id => rfl
  | (i, B) :: h, hn, st, id => by
    simp only [List.map_cons, List.nodup_cons] at hn
    simp only [List.map_cons, St.on]
    rw [on_add h hn.2]
    simp only [AHeap.get]
    by_cases hi : i = id
    · subst hi
      rw [get_none_of_keys hn.1, if_pos (by simp)]
      simp [St.blk]
    · rw [if_neg (by rw [Nat.beq_eq]; exact hi)]
      cases AHeap.get h id with
      | some B' => rfl
      | none => simp [St.blk, Ne.symm hi]
/-- The blocks that a call takes, and those that it leaves. -/
def callUpd (fp : List Nat) (post : AHeap) : List (Nat × Option ABlk) := (fp.map fun i => (i, none)) ++ post.map fun x => (x.1, some x.2)
theorem call_sound (h : Sim C st a w φ F) {f : Nat} {args : List AV} {vs : List Value} {hp post : AHeap} {fp : List Nat} {res : AV} (hv : VRs φ F w args vs)
    (hspec : ASpec P f args hp res post) (hhp : ∀ id, hp.get id = if id ∈ fp then st.H id else none) (hfp : ∀ id ∈ fp, st.H id ≠ none) (hnd : (post.map (·.1)).Nodup)
    (hnew : ∀ id, post.get id ≠ none → id ∉ fp → Fresh st id ∧ C.pin id = none)
    (hri : ∀ id ∈ res.ids, id ∈ fp ∨ post.get id ≠ none) (hpi : ∀ id B, post.get id = some B → ∀ i ∈ B.ids, i ∈ fp ∨ post.get i ≠ none) :
    Calls P f vs.toArray w fun e w' => ∃ v φ' F', e = .returned v ∧ Sim C (st.on (callUpd fp post)) a w' φ' F' ∧ VR φ' F' w' res v := by
  let φc : Phi := fun id => if id ∈ fp then φ id else none
  have hle : φc.Le φ := fun id x hx => by
    simp only [φc] at hx
    split at hx
    · exact hx
    · cases hx
  have hHP : HeapOK φc F w hp := fun id B hB => by
    rw [hhp] at hB
    split at hB
    · rename_i hid
      obtain ⟨x, hx, hs⟩ := h.own id B hB
      refine ⟨x, by simp only [φc, if_pos hid]; exact hx, ?_⟩
      cases x with
      | none => exact hs
      | some x => exact ⟨hs.1.keep hle (fun _ k => k) (KeptF.refl F w) rfl, hs.2.1⟩
    · cases hB
  refine (hspec.2 w vs φc F h.Fd hHP (fun id x hx => ?_) (fun id id' b N N' h1 h2 => h.inj id id' b N N' (hle _ _ h1) (hle _ _ h2)) (fun id id' b b' N N' c h1 h2 => h.sep id id' b b' N N' c (hle _ _ h1) (hle _ _ h2)) (fun id b N h1 c hc => ⟨(h.Dok id b N (hle _ _ h1) c hc).1, (h.Dok id b N (hle _ _ h1) c hc).2.1⟩) (VRs.keep hle (fun _ k => k) (KeptF.refl F w) _ hv)).mono ?_
  · simp only [φc] at hx
    split at hx
    · rename_i hid
      rw [hhp, if_pos hid]
      exact hfp id hid
    · cases hx
  rintro e w' ⟨v, φ', F', rfl, hA, hres⟩
  let φ'' : Phi := fun id => if id ∈ fp ∨ post.get id ≠ none then φ' id else φ id
  have hH : ∀ id, (st.on (callUpd fp post)).H id = match post.get id with | some B => some B | none => if id ∈ fp then none else st.H id := fun id => by
    rw [callUpd, on_append, on_add _ hnd]
    cases post.get id with
    | some B => rfl
    | none => exact on_fp fp st id
  have hkF : KeptF F w w' := fun b hb => hA.old b (h.Fd b hb) fun id b' N hid => by
    have := hle _ _ hid
    refine ⟨?_, fun hc => (h.Dok id b' N this b hc).2.1 hb⟩
    rintro rfl
    cases hB : st.H id with
    | none => exact h.dom id _ this hB
    | some B => exact (h.own_at hB this).2.1 hb
  -- what φ'' says beside φ'
  have hφ' : ∀ id x, φ' id = some x → φ'' id = some x := fun id x hx => by
    simp only [φ'', if_pos (Or.inr (hA.dom id x hx))]; exact hx
  -- φ'' on what is spoken of elsewhere
  have hcong : ∀ l : List Nat, (∀ id ∈ l, ¬ (post.get id ≠ none ∧ id ∉ fp)) → Cong φ φ'' l := fun l hl id hi y hy => by
    have hn := hl id hi
    simp only [φ''] at hy
    split at hy
    · rename_i hc
      have hd := hA.dom id y hy
      have hin : id ∈ fp := Classical.byContradiction fun hni => hn ⟨hd, hni⟩
      cases hB : st.H id with
      | none => exact absurd hB (hfp id hin)
      | some B =>
        obtain ⟨x, hx⟩ := h.live hB
        have hxc : φc id = some x := by simp only [φc, if_pos hin]; exact hx
        obtain ⟨y', hy', hl'⟩ := hA.pin id x hxc hd
        rw [hy'] at hy; injection hy with hy; subst hy
        exact ⟨x, hx, hl'⟩
    · exact ⟨y, hy, Like.refl y⟩
  -- what lies in no place that the call was given is as it was
  have hold : ∀ c, c < w.heap.size → (∀ id b N, id ∈ fp → φ id = some (some (b, N)) → c ≠ b ∧ c ∉ N.D) → w'.heap[c]? = w.heap[c]? := fun c hc hno => hA.old c hc fun id b N hid => by
    simp only [φc] at hid
    split at hid
    · rename_i hin; exact hno id b N hin hid
    · cases hid
  have hother : ∀ i b N, i ∉ fp → φ i = some (some (b, N)) → ∀ c, c = b ∨ c ∈ N.D → ∀ id b' N', id ∈ fp → φ id = some (some (b', N')) → c ≠ b' ∧ c ∉ N'.D := fun i b N hi hφi c hc id b' N' hid hφid => by
    rcases hc with rfl | hc
    · refine ⟨?_, fun hc' => ?_⟩
      · rintro rfl; exact hi (h.inj i id c N N' hφi hφid ▸ hid)
      · exact hi ((h.sep id i b' c N' N c hφid hφi hc' (.inl rfl)).1 ▸ hid)
    · refine ⟨?_, fun hc' => ?_⟩
      · rintro rfl; exact (h.sep i id b c N N' c hφi hφid hc (.inl rfl)).2 rfl
      · exact hi ((h.sep i id b b' N N' c hφi hφid hc (.inr hc')).1 ▸ hid)
  have hlt : ∀ i b N, φ i = some (some (b, N)) → ∀ c, c = b ∨ c ∈ N.D → c < w.heap.size := fun i b N hi c hc => by
    rcases hc with rfl | hc
    · cases hB : st.H i with
      | none => exact absurd hB (h.dom i _ hi)
      | some B => exact (h.own_at hB hi).1.lt
    · exact (h.Dok i b N hi c hc).1
  have hstale : ∀ (x : AV), (∀ id ∈ x.ids, ¬ (post.get id ≠ none ∧ id ∉ fp)) → ∀ u, VR φ F w x u → VR φ'' F' w' x u := fun x hx u hu =>
    VR.cong x (hcong _ hx) (VR.keep (Phi.Le.refl φ) hA.Fi hkF x hu)
  have hG0 : ∀ i b N, φ i = some (some (b, N)) → ∀ c, c = b ∨ c ∈ N.D → ¬ F c ∧ (C.G c ∨ C.w0.heap.size ≤ c) := fun i b N hi c hc => by
    rcases hc with rfl | hc
    · cases hB : st.H i with
      | none => exact absurd hB (h.dom i _ hi)
      | some B => exact (h.own_at hB hi).2
    · exact (h.Dok i b N hi c hc).2
  have hblk0 : ∀ id b N, φ' id = some (some (b, N)) → ∀ c, c = b ∨ c ∈ N.D → ¬ F' c ∧ (C.G c ∨ C.w0.heap.size ≤ c) := fun id b N hid c hc => by
    have hd := hA.dom id _ hid
    refine ⟨?_, ?_⟩
    · rcases hc with rfl | hc
      · cases hB : post.get id with
        | none => exact absurd hB hd
        | some B =>
          obtain ⟨x, hx, hs⟩ := hA.heap id B hB
          rw [hid] at hx; injection hx with hx; subst hx
          exact hs.2
      · exact (hA.Dok id b N hid c hc).2
    · rcases hA.place id b N hid c hc with ⟨i, b', N', hi, hc'⟩ | hge
      · exact (hG0 i b' N' (hle _ _ hi) c hc').2
      · exact .inr (Nat.le_trans h.size hge)
  have hblk : ∀ id b N, φ' id = some (some (b, N)) → ¬ F' b ∧ (C.G b ∨ C.w0.heap.size ≤ b) := fun id b N hid => hblk0 id b N hid b (.inl rfl)
  have hnotF0 : ∀ id b N, φ id = some (some (b, N)) → id ∉ fp → ∀ c, c = b ∨ c ∈ N.D → ¬ F' c ∧ c < w.heap.size ∧ w'.heap[c]? = w.heap[c]? := fun id b N hid hni c hc => by
    have hl := hlt id b N hid c hc
    refine ⟨fun hb => ?_, hl, hold c hl (hother id b N hni hid c hc)⟩
    rcases (hA.Fd c hb).2 with h1 | ⟨i, b', N', hi, hc'⟩ | h1
    · exact (hG0 id b N hid c hc).1 h1
    · have hjin : i ∈ fp := Classical.byContradiction fun hn => by simp only [φc, if_neg hn] at hi; cases hi
      have := hother id b N hni hid c hc i b' N' hjin (hle _ _ hi)
      rcases hc' with h1 | h1
      · exact this.1 h1
      · exact this.2 h1
    · omega
  have hnotF : ∀ id b N, φ id = some (some (b, N)) → id ∉ fp → ¬ F' b ∧ b < w.heap.size ∧ w'.heap[b]? = w.heap[b]? := fun id b N hid hni => hnotF0 id b N hid hni b (.inl rfl)
  -- what the call leaves lies apart from what it was not given
  have hapart : ∀ id b N, φ' id = some (some (b, N)) → ∀ i b' N', φ i = some (some (b', N')) → i ∉ fp → ∀ c, c = b ∨ c ∈ N.D → c = b' ∨ c ∈ N'.D → False := fun id b N hid i b' N' hi hni c hc hc' => by
    rcases hA.place id b N hid c hc with ⟨j, b2, N2, hj, hc2⟩ | hge
    · have hjin : j ∈ fp := Classical.byContradiction fun hn => by simp only [φc, if_neg hn] at hj; cases hj
      have := hother i b' N' hni hi c hc' j b2 N2 hjin (hle _ _ hj)
      rcases hc2 with h1 | h1
      · exact this.1 h1
      · exact this.2 h1
    · have := hlt i b' N' hi c hc'
      omega
  have hin : ∀ id x, (id ∈ fp ∨ post.get id ≠ none) → φ'' id = some x → φ' id = some x := fun id x hc hx => by
    simp only [φ'', if_pos hc] at hx; exact hx
  refine ⟨v, φ'', F', rfl, ?_, VR.congr _ (fun id hi x hx => hin id x (hri id hi) hx) hres⟩
  exact {
    nt := h.nt
    df := h.df
    os := hA.os.trans h.os
    tape := hA.tape.trans h.tape
    output := hA.output.trans h.output
    size := Nat.le_trans h.size hA.size
    old := fun b hb hG => (hA.old b (Nat.lt_of_lt_of_le hb h.size) fun id b' N hid => by
      have hid' := hle _ _ hid
      refine ⟨fun e => ?_, fun e => ?_⟩
      · rcases (hG0 id b' N hid' b (.inl e)).2 with h1 | h1
        · exact hG h1
        · omega
      · rcases (hG0 id b' N hid' b (.inr e)).2 with h1 | h1
        · exact hG h1
        · omega).trans (h.old b hb hG)
    Fd := fun b hb => (hA.Fd b hb).1
    Fo := fun b hb => by
      rcases (hA.Fd b hb).2 with h1 | ⟨i, b', N', hi, hc'⟩ | h1
      · exact h.Fo b h1
      · exact .inr (hG0 i b' N' (hle _ _ hi) b hc').2
      · exact .inr (.inr (Nat.le_trans h.size h1))
    Fi := fun b hb => hA.Fi b (h.Fi b hb)
    env := fun t x hx => by
      rw [on_σ] at hx
      exact hstale x (fun id hi hc => (hnew id hc.1 hc.2).1.env t x hx hi) _ (h.env t x hx)
    own := fun id B hB => by
      rw [hH] at hB
      split at hB
      · rename_i B' hB'
        injection hB with hB; subst hB
        obtain ⟨x, hx, hs⟩ := hA.heap id B' hB'
        refine ⟨x, hφ' _ _ hx, ?_⟩
        cases x with
        | none => exact hs
        | some x =>
          obtain ⟨b, N⟩ := x
          exact ⟨BR.congr (fun i hi y hy => hin i y (hpi id _ hB' i hi) hy) hs.1, hblk id b N hx⟩
      · rename_i hnone
        split at hB
        · cases hB
        · rename_i hni
          obtain ⟨x, hx, hs⟩ := h.own id B hB
          refine ⟨x, by simp only [φ'']; rw [if_neg (by simp [hni, hnone])]; exact hx, ?_⟩
          cases x with
          | none => exact hs
          | some x =>
            obtain ⟨b, N⟩ := x
            obtain ⟨q1, q2, q3⟩ := hnotF id b N hx hni
            refine ⟨BR.cong (hcong _ fun i hi hc => (hnew i hc.1 hc.2).1.own id B hB hi) (hs.1.keep (Phi.Le.refl φ) hA.Fi hkF q3 (fun c hc => (hnotF0 id b N hx hni c (.inr hc)).2.2)), q1, hs.2.2⟩
    dom := fun id x hx => by
      rw [hH]
      simp only [φ''] at hx
      split at hx
      · have := hA.dom id x hx
        cases hp : post.get id with
        | none => exact absurd hp this
        | some B => simp
      · rename_i hc
        have hp : post.get id = none := Classical.byContradiction fun hp => hc (.inr hp)
        rw [hp]
        simp only [if_neg (fun hh => hc (.inl hh))]
        exact h.dom id x hx
    inj := fun id id' b N N' h1 h2 => by
      simp only [φ''] at h1 h2
      split at h1 <;> split at h2
      · exact hA.inj id id' b N N' h1 h2
      · rename_i _ hc
        exact (hapart id b N h1 id' b N' h2 (fun hh => hc (.inl hh)) b (.inl rfl) (.inl rfl)).elim
      · rename_i hc _
        exact (hapart id' b N' h2 id b N h1 (fun hh => hc (.inl hh)) b (.inl rfl) (.inl rfl)).elim
      · exact h.inj id id' b N N' h1 h2
    sep := fun id id' b b' N N' c h1 h2 hc hc' => by
      simp only [φ''] at h1 h2
      split at h1 <;> split at h2
      · exact hA.sep id id' b b' N N' c h1 h2 hc hc'
      · rename_i _ hn
        exact (hapart id b N h1 id' b' N' h2 (fun hh => hn (.inl hh)) c (.inr hc) hc').elim
      · rename_i hn _
        exact (hapart id' b' N' h2 id b N h1 (fun hh => hn (.inl hh)) c hc' (.inr hc)).elim
      · exact h.sep id id' b b' N N' c h1 h2 hc hc'
    Dok := fun id b N h1 c hc => by
      simp only [φ''] at h1
      split at h1
      · exact ⟨(hA.Dok id b N h1 c hc).1, hblk0 id b N h1 c (.inr hc)⟩
      · rename_i hn
        have := hnotF0 id b N h1 (fun hh => hn (.inl hh)) c (.inr hc)
        exact ⟨Nat.lt_of_lt_of_le this.2.1 hA.size, this.1, (hG0 id b N h1 c (.inr hc)).2⟩
    pin := fun id x hp hne => by
      rw [hH] at hne
      simp only [φ'']
      cases hg : post.get id with
      | none =>
        rw [hg] at hne
        simp only at hne
        split at hne
        · exact absurd rfl hne
        · rename_i hni
          rw [if_neg (by simp [hni])]
          exact h.pin id x hp hne
      | some B =>
        rw [if_pos (by simp)]
        by_cases hin : id ∈ fp
        · cases hB : st.H id with
          | none => exact absurd hB (hfp id hin)
          | some B' =>
            obtain ⟨y, hy, hl⟩ := h.pin id x hp (by rw [hB]; simp)
            obtain ⟨z, hz, hl2⟩ := hA.pin id y (by simp only [φc, if_pos hin]; exact hy) (by rw [hg]; simp)
            exact ⟨z, hz, hl.trans hl2⟩
        · have := (hnew id (by rw [hg]; simp) hin).2
          rw [hp] at this; cases this }
end
end Go.AM
end
