/- A map whose values grow in rows of their own. -/
import Derived.Test.YtijdlphadhpabaaA4
import Derived.Test.YtijdlphadhpabaaA7
section
namespace Go.AM
open Go Go.RowKit Go.ChangeMaps
section
variable {C : Ctx} {st : St} {a : Act} {w w' : World} {φ : Phi} {F : Nat → Prop}
theorem Sim.turnTab (h : Sim C st a w φ F) {id b : Nat} {N N' : Sz} {B' : ABlk} (hφ : φ id = some (some (b, N))) (hn : N.n = N'.n)
    (hos : w'.os = w.os) (htape : w'.tape = w.tape) (hout : w'.output = w.output) (hsize : w.heap.size ≤ w'.heap.size)
    (hkeep : ∀ c, c < w.heap.size → c ≠ b → c ∉ N.D → w'.heap[c]? = w.heap[c]?) (hD : ∀ c ∈ N'.D, c ∈ N.D ∨ w.heap.size ≤ c) (hDlt : ∀ c ∈ N'.D, c < w'.heap.size) (hbD : b ∉ N'.D)
    (hB : BR (φ.set id (some (some (b, N')))) F w' b N' B') : Sim C (st.blk id (some B')) a w' (φ.set id (some (some (b, N')))) F := by
  have hid : ∃ B, st.H id = some B := by
    cases hB0 : st.H id with
    | none => exact absurd hB0 (h.dom id _ hφ)
    | some B => exact ⟨B, rfl⟩
  obtain ⟨B0, hB0⟩ := hid
  obtain ⟨hbr, hnF, hG⟩ := h.own_at hB0 hφ
  have hkF : KeptF F w w' := fun c hc => hkeep c (h.Fd c hc) (fun e => hnF (e ▸ hc)) fun hcD => (h.Dok id b N hφ c hcD).2.1 hc
  have hoth : ∀ i b2 N2, i ≠ id → φ i = some (some (b2, N2)) → ∀ c, c = b2 ∨ c ∈ N2.D → c < w.heap.size ∧ c ≠ b ∧ c ∉ N.D := fun i b2 N2 hi hφi c hc => by
    rcases hc with rfl | hc
    · cases hBi : st.H i with
      | none => exact absurd hBi (h.dom i _ hφi)
      | some Bi =>
        refine ⟨(h.own_at hBi hφi).1.lt, ?_, fun hcD => ?_⟩
        · rintro rfl; exact hi (h.inj i id c N2 N hφi hφ)
        · exact hi (h.sep id i b c N N2 c hφ hφi hcD (.inl rfl)).1.symm
    · refine ⟨(h.Dok i b2 N2 hφi c hc).1, ?_, fun hcD => ?_⟩
      · rintro rfl; exact (h.sep i id b2 c N2 N c hφi hφ hc (.inl rfl)).2 rfl
      · exact hi (h.sep i id b2 b N2 N c hφi hφ hc (.inr hcD)).1
  have hcong : ∀ l, Cong φ (φ.set id (some (some (b, N')))) l := fun l i _ y hy => by
    by_cases hi : i = id
    · subst hi
      rw [Phi.set_eq] at hy; injection hy with hy; subst hy
      exact ⟨_, hφ, rfl, hn⟩
    · rw [Phi.set_ne hi] at hy
      exact ⟨y, hy, Like.refl y⟩
  have hval : ∀ x v, VR φ F w x v → VR (φ.set id (some (some (b, N')))) F w' x v := fun x v hv => VR.cong x (hcong _) (VR.keep (Phi.Le.refl φ) (fun _ k => k) hkF x hv)
  exact {
    nt := h.nt
    df := h.df
    os := hos.trans h.os
    tape := htape.trans h.tape
    output := hout.trans h.output
    size := Nat.le_trans h.size hsize
    old := fun c hc hGc => (hkeep c (Nat.lt_of_lt_of_le hc h.size) (fun e => by
      subst e
      rcases hG with h1 | h1
      · exact hGc h1
      · omega) fun hcD => by
      rcases (h.Dok id b N hφ c hcD).2.2 with h1 | h1
      · exact hGc h1
      · omega).trans (h.old c hc hGc)
    Fd := fun c hc => Nat.lt_of_lt_of_le (h.Fd c hc) hsize
    Fo := h.Fo
    Fi := h.Fi
    env := fun t x hx => hval x _ (h.env t x hx)
    own := fun i B hi0 => by
      by_cases hi : i = id
      · subst hi
        simp [St.blk] at hi0; subst hi0
        exact ⟨_, Phi.set_eq, hB, hnF, hG⟩
      · simp only [St.blk, if_neg hi] at hi0
        obtain ⟨x, hx, hs⟩ := h.own i B hi0
        refine ⟨x, by rw [Phi.set_ne hi]; exact hx, ?_⟩
        cases x with
        | none => exact hs
        | some x =>
          obtain ⟨b2, N2⟩ := x
          have hk := fun c hc => let q := hoth i b2 N2 hi hx c hc; hkeep c q.1 q.2.1 q.2.2
          exact ⟨BR.cong (hcong _) (hs.1.keep (Phi.Le.refl φ) (fun _ k => k) hkF (hk b2 (.inl rfl)) (fun c hc => hk c (.inr hc))), hs.2.1, hs.2.2⟩
    dom := fun i x hx => by
      by_cases hi : i = id
      · subst hi; simp [St.blk]
      · simp only [St.blk, if_neg hi]
        rw [Phi.set_ne hi] at hx
        exact h.dom i x hx
    inj := fun i i' c N1 N2 h1 h2 => by
      by_cases hi : i = id <;> by_cases hi' : i' = id
      · rw [hi, hi']
      · subst hi
        rw [Phi.set_eq] at h1
        rw [Phi.set_ne hi'] at h2
        simp only [Option.some.injEq, Prod.mk.injEq] at h1
        obtain ⟨rfl, _⟩ := h1
        exact absurd rfl (hoth i' b N2 hi' h2 b (.inl rfl)).2.1
      · subst hi'
        rw [Phi.set_eq] at h2
        rw [Phi.set_ne hi] at h1
        simp only [Option.some.injEq, Prod.mk.injEq] at h2
        obtain ⟨rfl, _⟩ := h2
        exact absurd rfl (hoth i b N1 hi h1 b (.inl rfl)).2.1
      · rw [Phi.set_ne hi] at h1
        rw [Phi.set_ne hi'] at h2
        exact h.inj i i' c N1 N2 h1 h2
    sep := fun i i' c1 c2 N1 N2 c h1 h2 hc hc' => by
      by_cases hi : i = id <;> by_cases hi' : i' = id
      · subst hi; subst hi'
        rw [Phi.set_eq] at h1 h2
        simp only [Option.some.injEq, Prod.mk.injEq] at h1 h2
        obtain ⟨rfl, rfl⟩ := h1
        obtain ⟨rfl, _⟩ := h2
        exact ⟨rfl, fun e => hbD (e ▸ hc)⟩
      · subst hi
        rw [Phi.set_eq] at h1
        rw [Phi.set_ne hi'] at h2
        simp only [Option.some.injEq, Prod.mk.injEq] at h1
        obtain ⟨rfl, rfl⟩ := h1
        have q := hoth i' c2 N2 hi' h2 c hc'
        rcases hD c hc with h3 | h3
        · exact absurd h3 q.2.2
        · omega
      · subst hi'
        rw [Phi.set_eq] at h2
        rw [Phi.set_ne hi] at h1
        simp only [Option.some.injEq, Prod.mk.injEq] at h2
        obtain ⟨rfl, rfl⟩ := h2
        have q := hoth i c1 N1 hi h1 c (.inr hc)
        rcases hc' with rfl | hc'
        · exact absurd rfl q.2.1
        · rcases hD c hc' with h3 | h3
          · exact absurd h3 q.2.2
          · omega
      · rw [Phi.set_ne hi] at h1
        rw [Phi.set_ne hi'] at h2
        exact h.sep i i' c1 c2 N1 N2 c h1 h2 hc hc'
    Dok := fun i c1 N1 h1 c hc => by
      by_cases hi : i = id
      · subst hi
        rw [Phi.set_eq] at h1
        simp only [Option.some.injEq, Prod.mk.injEq] at h1
        obtain ⟨rfl, rfl⟩ := h1
        refine ⟨hDlt c hc, ?_⟩
        rcases hD c hc with h3 | h3
        · exact (h.Dok i b N hφ c h3).2
        · exact ⟨fun hF => by have := h.Fd c hF; omega, .inr (Nat.le_trans h.size h3)⟩
      · rw [Phi.set_ne hi] at h1
        have q := h.Dok i c1 N1 h1 c hc
        exact ⟨Nat.lt_of_lt_of_le q.1 hsize, q.2⟩
    pin := fun i x hp hne => by
      by_cases hi : i = id
      · subst hi
        obtain ⟨y, hy, hl⟩ := h.pin i x hp (by rw [hB0]; simp)
        rw [hφ] at hy; injection hy with hy; subst hy
        exact ⟨_, Phi.set_eq, hl.trans ⟨rfl, hn⟩⟩
      · rw [Phi.set_ne hi]
        exact h.pin i x hp (by simpa [St.blk, hi] using hne) }
/-- What is read of the cells from 'ad' on: one value. -/
theorem append_raw {P : Program} {t ty e n c' : Nat} {i : TypeInfo} {z : Value} (hu : P.underlying t = some (.slice e)) (hi : P.info? e = some i) (hs : i.size = 1) (hz : i.zero = some z) (hzc : z.cells.size = 1)
    {cs : List PV} {v : Value} {D0 : List Nat} (hT : TR w F e cs n v D0) {ad : Addr} {u : Value} {p : PV} (hu1 : w.cell? ad = some u) (huo : u.oneCell' = true) (hup : RV w F u p) (hDF : ∀ c ∈ D0, ¬ F c) (hFd : ∀ b, F b → b < w.heap.size)
    (hb1 : (n + 1) * i.bytes ≤ 140737488355328) (hb2 : n + 1 ≤ 9223372036854775807) :
    ∃ r w' D1, (Builtin.append_ #[t, t] ty #[v, .slice (some ad) 1 c']).run P w = .ok r w' ∧ TR w' F e (cs ++ [p]) (n + 1) r D1 ∧ w'.os = w.os ∧ w'.tape = w.tape ∧ w'.output = w.output ∧ w.heap.size ≤ w'.heap.size ∧
      (∀ c, c < w.heap.size → c ∉ D0 → w'.heap[c]? = w.heap[c]?) ∧ (D1 = D0 ∨ D1 = [w.heap.size]) ∧ KeptF F w w' := by
  have hnews : ∀ (j : Nat) (x : Value), [u][j]? = some x → w.cell? (ad.add j) = some x := fun j x hx => by
    match j with
    | 0 => simp at hx; subst hx; simpa [Addr.add] using hu1
    | j + 1 => simp at hx
  have hl1 : [u].length = 1 * i.size := by rw [hs]; rfl
  have hup' : ∀ (w' : World), KeptF F w w' → RV w' F u p := fun w' hk => hup.keep (fun _ k => k) hk
  rcases hT with ⟨rfl, rfl, rfl, rfl⟩ | ⟨d, c, cur, rfl, rfl, h1, h2, h3, h4, h5, h6⟩
  · have hr := run_append_nil (P := P) w t ty e i z hu hi hz ad 1 c' [u] hl1 hnews (by omega) (by omega) (by omega)
    have hge := grownCap_ge w 1 0 e
    have hcm := grownCap_le_maxLen w 1 0 e (by simp only [maxLen]; omega)
    refine ⟨_, _, [w.heap.size], hr, .inr ⟨w.heap.size, _, _, rfl, rfl, hge, hcm, heap_alloc_new w.drew _, ?_, rfl, fun j q hq => ?_⟩, rfl, rfl, rfl, by simp, fun c hc _ => Below.heap_alloc w.drew _ c hc, .inr rfl, fun b hb => Below.heap_alloc w.drew _ b (hFd b hb)⟩
    · simp only [Array.size_append, size_zeroCells, hzc, List.size_toArray, List.length_singleton]; omega
    · match j with
      | 0 =>
        simp at hq; subst hq
        exact ⟨u, by rw [Array.getElem?_append_left (by simp)]; rfl, hup' _ fun b hb => Below.heap_alloc w.drew _ b (hFd b hb)⟩
      | j + 1 => simp at hq
  · have hd : d < w.heap.size := (Array.getElem?_eq_some_iff.1 h3).1
    have hdF : ¬ F d := hDF d (by simp)
    by_cases hroom : n + 1 ≤ c
    · have hfit : n * i.size + [u].length ≤ cur.size := by rw [hs]; simp; omega
      have hr := run_append_room (P := P) w t ty e i hu hi d n c cur h3 ad 1 c' [u] hl1 hnews (fun x hx => by simp at hx; subst hx; exact huo) hroom hfit
      have g1 := splice_size cur [u] (n * i.size) hfit
      have g2 := splice_get cur [u] (n * i.size) hfit
      generalize hcur' : (cur.toList.take (n * i.size) ++ [u] ++ cur.toList.drop (n * i.size + [u].length)).toArray = cur' at hr g1 g2
      have hkF : KeptF F w (w.setRow d cur') := fun q hq => setRow_other w d q _ (fun e => hdF (e ▸ hq))
      refine ⟨_, _, [d], hr, .inr ⟨d, c, cur', rfl, rfl, hroom, h2, setRow_heap w d cur _ e _ h3, by rw [g1]; exact h4, by simp [h5], fun j q hq => ?_⟩, rfl, rfl, rfl, by simp, fun q _ hq2 => setRow_other w d q _ (fun e => hq2 (by simp [e])), .inl rfl, hkF⟩
      rw [g2, hs]
      by_cases hj : j < cs.length
      · rw [List.getElem?_append_left hj] at hq
        rw [if_neg (by simp; omega)]
        obtain ⟨x, q1, q2⟩ := h6 j q hq
        exact ⟨x, q1, q2.keep (fun _ k => k) hkF⟩
      · have hlt := (List.getElem?_eq_some_iff.1 hq).1
        simp at hlt
        have hjn : j = cs.length := by omega
        subst hjn
        simp at hq; subst hq
        rw [if_pos (by simp; omega)]
        exact ⟨u, by simp [h5], hup' _ hkF⟩
    · obtain ⟨us, hul, huc⟩ := cells_list (R := fun j q => cur[j]? = some q ∧ ∀ p, cs[j]? = some p → RV w F q p) cs.length fun j hj => by
        obtain ⟨q, q1, q2⟩ := h6 j _ (List.getElem?_eq_getElem hj)
        exact ⟨q, q1, fun p hp => by rw [List.getElem?_eq_getElem hj] at hp; injection hp with hp; subst hp; exact q2⟩
      have holds : ∀ (j : Nat) (q : Value), us[j]? = some q → w.cell? ((⟨d, 0, none⟩ : Addr).add j) = some q := fun j q hq => by
        rw [add_lit, cell_blk h3, Nat.zero_add]; exact (huc j q hq).1
      have hr := run_append_grow (P := P) w t ty e i z hu hi hz ⟨d, 0, none⟩ n c us (by rw [hs]; omega) holds ad 1 c' [u] hl1 hnews (by omega) (by omega) (growslice_fits (by omega) hb1)
      have hge := grownCap_ge w (n + 1) c e
      have hcm := grownCap_le_maxLen w (n + 1) c e (by simp only [maxLen]; omega)
      have hkF : KeptF F w (w.drew.alloc (.cells (us.toArray ++ [u].toArray ++ Builtin.zeroCells z.cells (grownCap w (n + 1) c e - (n + 1))) e)) := fun b hb => Below.heap_alloc w.drew _ b (hFd b hb)
      refine ⟨_, _, [w.heap.size], hr, .inr ⟨w.heap.size, _, _, rfl, rfl, hge, hcm, heap_alloc_new w.drew _, ?_, by simp [h5], fun j q hq => ?_⟩, rfl, rfl, rfl, by simp, fun c hc _ => Below.heap_alloc w.drew _ c hc, .inr rfl, hkF⟩
      · simp only [Array.size_append, size_zeroCells, hzc, List.size_toArray, hul, h5, List.length_singleton]; omega
      · exact append_get (zs := Builtin.zeroCells z.cells (grownCap w (n + 1) c e - (n + 1))) (us := us) (vs := [u]) (cs := cs) (ys := [p]) hul rfl (fun j p' hp => by
          have hlt := (List.getElem?_eq_some_iff.1 hp).1
          exact ⟨_, List.getElem?_eq_getElem (by omega), ((huc j _ (List.getElem?_eq_getElem (by omega))).2 p' hp).keep (fun _ k => k) hkF⟩) (fun j p' hp => by
          match j with
          | 0 => simp at hp; subst hp; exact ⟨u, rfl, hup' _ hkF⟩
          | j + 1 => simp at hp) j q hq
theorem TRs.keys {ag kind : Nat} : ∀ {m : List (List Int × List PV × Nat)} {es : List MapEntry} {D : List Nat}, TRs ag w F kind m es D → KRs ag (m.map (·.1)) es
  | [], [], _, _ => trivial
  | (_, _, _) :: _, _ :: _, _, ⟨_, _, _, h1, _, h3⟩ => ⟨h1, h3.keys⟩
  | [], _ :: _, _, h => h.elim
  | _ :: _, [], _, h => h.elim
theorem TRs.app {ag kind : Nat} : ∀ {m : List (List Int × List PV × Nat)} {es : List MapEntry} {D : List Nat} {m' : List (List Int × List PV × Nat)} {es' : List MapEntry} {D' : List Nat}, TRs ag w F kind m es D → TRs ag w F kind m' es' D' → TRs ag w F kind (m ++ m') (es ++ es') (D ++ D')
  | [], [], D, _, _, _, h, k => by rw [TRs] at h; subst h; exact k
  | (_, _, _) :: _, _ :: _, D, _, _, _, ⟨D1, D2, e, h1, h2, h3⟩, k => ⟨D1, D2 ++ _, by rw [e, List.append_assoc], h1, h2, h3.app k⟩
  | [], _ :: _, _, _, _, _, h, _ => h.elim
  | _ :: _, [], _, _, _, _, h, _ => h.elim
/-- One more cell at the row of this key. -/
def tApp (k : List Int) (p : PV) : List (List Int × List PV × Nat) → List (List Int × List PV × Nat)
  | [] => [(k, [p], 1)]
  | (k', cs, n) :: m => if k = k' then (k, cs ++ [p], n + 1) :: m else (k', cs, n) :: tApp k p m
/-- The row of this key. -/
def tRow (k : List Int) : List (List Int × List PV × Nat) → List PV × Nat
  | [] => ([], 0)
  | (k', cs, n) :: m => if k = k' then (cs, n) else tRow k m
structure Focus (ag kind : Nat) (w : World) (F : Nat → Prop) (k : List Int) (kv : Value) (p : PV) (clock : Nat) (m : List (List Int × List PV × Nat)) (es : List MapEntry) (D : List Nat)
    (mA mB : List (List Int × List PV × Nat)) (cs : List PV) (n : Nat) (A B : List MapEntry) (e0 : MapEntry) (DA D0 DB : List Nat) : Prop where
  a : TRs ag w F kind mA A DA
  key : e0.key = kv
  val : TR w F kind cs n e0.val D0
  b : TRs ag w F kind mB B DB
  D : D = DA ++ (D0 ++ DB)
  app : tApp k p m = mA ++ (k, cs ++ [p], n + 1) :: mB
  row : tRow k m = (cs, n)
  which : (fIdx k (m.map (·.1)) = some A.length ∧ es = A ++ e0 :: B) ∨ (fIdx k (m.map (·.1)) = none ∧ es = A ∧ B = [] ∧ e0.val = .slice none 0 0 ∧ e0.born = clock)
theorem TRs.focus {ag kind : Nat} {k : List Int} {kv : Value} (p : PV) (clock : Nat) (hk : KI ag k kv) : ∀ {m : List (List Int × List PV × Nat)} {es : List MapEntry} {D : List Nat}, TRs ag w F kind m es D →
    ∃ mA mB cs n A B e0 DA D0 DB, Focus ag kind w F k kv p clock m es D mA mB cs n A B e0 DA D0 DB
  | [], [], D, h => by
    rw [TRs] at h; subst h
    exact ⟨[], [], [], 0, [], [], ⟨kv, .slice none 0 0, clock⟩, [], [], [], by rw [TRs], rfl, .inl ⟨rfl, rfl, rfl, rfl⟩, by rw [TRs], rfl, rfl, rfl, .inr ⟨rfl, rfl, rfl, rfl, rfl⟩⟩
  | (k', cs', n') :: m, e :: es, D, ⟨D1, D2, eD, h1, h2, h3⟩ => by
    by_cases hkk : k = k'
    · subst hkk
      exact ⟨[], m, cs', n', [], es, e, [], D1, D2, by rw [TRs], sameBits_KI h1 hk, h2, h3, eD, by simp [tApp], by simp [tRow], .inl ⟨by simp [fIdx], rfl⟩⟩
    · obtain ⟨mA, mB, cs, n, A, B, e0, DA, D0, DB, f⟩ := TRs.focus p clock hk h3
      refine ⟨(k', cs', n') :: mA, mB, cs, n, e :: A, B, e0, D1 ++ DA, D0, DB, ⟨D1, DA, rfl, h1, h2, f.a⟩, f.key, f.val, f.b, by rw [eD, f.D, List.append_assoc], by simp [tApp, hkk, f.app], by simp [tRow, hkk, f.row], ?_⟩
      rcases f.which with ⟨q1, q2⟩ | ⟨q1, q2, q3, q4, q5⟩
      · exact .inl ⟨by simp [fIdx, hkk, q1], by rw [q2]; rfl⟩
      · exact .inr ⟨by simp [fIdx, hkk, q1], by rw [q2], q3, q4, q5⟩
  | [], _ :: _, _, h => h.elim
  | _ :: _, [], _, h => h.elim
theorem stamps_find {A B : List MapEntry} {e0 : MapEntry} {clock : Nat} (h : Stamps (A ++ e0 :: B) clock) : (A ++ e0 :: B).findIdx? (fun e => (e.born : Int) == (e0.born : Int)) = some A.length := by
  rw [List.findIdx?_append]
  have h1 : A.findIdx? (fun e => (e.born : Int) == (e0.born : Int)) = none := by
    rw [List.findIdx?_eq_none_iff]
    intro e he
    have hn := h.1
    rw [List.map_append, List.map_cons, List.nodup_append] at hn
    have := hn.2.2 e.born (List.mem_map.2 ⟨e, he, rfl⟩) e0.born (by simp)
    simp; omega
  rw [h1]
  simp [List.findIdx?_cons]
theorem run_mapEntry_tab {P : Program} {t kt et ag kind b clock : Nat} {k : List Int} {kv : Value} {p : PV} {m : List (List Int × List PV × Nat)} {es : Array MapEntry} {D : List Nat} {mA mB : List (List Int × List PV × Nat)} {cs : List PV} {n : Nat} {A B : List MapEntry} {e0 : MapEntry} {DA D0 DB : List Nat}
    (hu : P.underlying t = some (.map kt et)) (hkt : keyTy P kt = some ag) (hz : (zeroValue et).run P w = .ok (.slice none 0 0) w) (hb : w.heap[b]? = some (.map es clock)) (hk : KI ag k kv) (hm : TRs ag w F kind m es.toList D) (hst : Stamps es.toList clock)
    (f : Focus ag kind w F k kv p clock m es.toList D mA mB cs n A B e0 DA D0 DB) :
    ∃ L clock1, (Instr.mapEntry t (.map (some b)) kv).run P w = .ok (.tuple #[e0.val, .int .i64 e0.born]) (setBlock w b (.map L clock1)) ∧ L.toList = A ++ e0 :: B ∧ Stamps L.toList clock1 := by
  have hf := run_findKey_KI (w := w) hkt hk hm.keys
  have hc := run_checkKey_KI (w := w) hkt hk false
  rcases f.which with ⟨q1, q2⟩ | ⟨q1, q2, q3, q4, q5⟩
  · rw [q1] at hf
    have he : es.toList[A.length]? = some e0 := by rw [q2]; simp
    have he' : es[A.length]? = some e0 := by rw [← Array.getElem?_toList]; exact he
    simp only [Option.bind_some, he, Option.map_some] at hf
    have hkey : e0.key = kv := f.key
    have hks := run_keyThatStays_KI (P := P) (w := w) hk
    have hL : (es.modify A.length fun e => { e with key := kv }).toList = A ++ e0 :: B := by
      rw [Array.toList_modify, q2]
      apply List.ext_getElem?
      intro j
      rw [List.getElem?_modify]
      by_cases hj : A.length = j
      · subst hj
        simp [← hkey]
      · simp [hj]
    refine ⟨es.modify A.length fun e => { e with key := kv }, clock, ?_, hL, by rw [hL, ← q2]; exact hst⟩
    simp only [Instr.mapEntry, Sem.run_bind, run_underlying hu, Result.andThen_ok, MapKept.run_getObj_map hb, hc, hf, he', Option.map_some, Option.getD_some, hkey, hks, MapKept.run_setObj_map _ hb]
    rfl
  · rw [q1] at hf
    have hL : (es.push { key := kv, val := .slice none 0 0, born := clock }).toList = A ++ e0 :: B := by
      rw [Array.toList_push, q2, q3]
      congr 1
      have := f.key
      cases e0; simp only at this q4 q5; subst this; subst q4; subst q5; rfl
    refine ⟨es.push { key := kv, val := .slice none 0 0, born := clock }, clock + 1, ?_, hL, ?_⟩
    · simp only [Option.bind_none] at hf
      simp only [Instr.mapEntry, Sem.run_bind, run_underlying hu, Result.andThen_ok, MapKept.run_getObj_map hb, hc, hf, hz, MapKept.run_setObj_map _ hb, q4, q5]
      rfl
    · rw [Array.toList_push]
      exact hst.push _ rfl
theorem run_entryStore_tab {P : Program} {t b clock : Nat} {L : Array MapEntry} {A B : List MapEntry} {e0 : MapEntry} (r : Value) (hb : w.heap[b]? = some (.map L clock)) (hL : L.toList = A ++ e0 :: B) (hst : Stamps L.toList clock) :
    ∃ L', (Instr.entryStore t (.map (some b)) (.int .i64 e0.born) r).run P w = .ok () (setBlock w b (.map L' clock)) ∧ L'.toList = A ++ { e0 with val := r } :: B ∧ Stamps L'.toList clock := by
  have hfi : L.findIdx? (fun e => (e.born : Int) == (e0.born : Int)) = some A.length := by
    have e : L = (A ++ e0 :: B).toArray := by rw [← hL]
    rw [e, List.findIdx?_toArray]
    exact stamps_find (by rw [← hL]; exact hst)
  have hL' : (L.modify A.length fun e => { e with val := r }).toList = A ++ { e0 with val := r } :: B := by
    rw [Array.toList_modify, hL]
    apply List.ext_getElem?
    intro j
    rw [List.getElem?_modify]
    by_cases hj : A.length = j
    · subst hj; simp
    · simp only [hj, if_false]
      rcases Nat.lt_or_gt_of_ne hj with h | h
      · rw [List.getElem?_append_right (by omega), List.getElem?_append_right (by omega)]
        obtain ⟨q, hq⟩ : ∃ q, j - A.length = q + 1 := ⟨j - A.length - 1, by omega⟩
        rw [hq]; simp
      · rw [List.getElem?_append_left h, List.getElem?_append_left h]; simp
  refine ⟨L.modify A.length fun e => { e with val := r }, ?_, hL', ?_⟩
  · have ha : (asInt (.int .i64 (e0.born : Int))).run P w = .ok (e0.born : Int) w := by simp [asInt, asIntOf]
    simp only [Instr.entryStore, Sem.run_bind, MapKept.run_getObj_map hb, Result.andThen_ok, ha, hfi, MapKept.run_setObj_map _ hb]
    rfl
  · rw [hL']
    rw [hL] at hst
    refine ⟨by have := hst.1; simpa using this, fun e he => ?_⟩
    simp only [List.mem_append, List.mem_cons] at he
    rcases he with he | rfl | he
    · exact hst.2 e (by simp [he])
    · exact hst.2 e0 (by simp)
    · exact hst.2 e (by simp [he])
theorem sb_other (w : World) (b : Nat) (o : Obj) {k : Nat} (h : k ≠ b) : (setBlock w b o).heap[k]? = w.heap[k]? := setBlock_other w b o h
theorem sb_size (w : World) (b : Nat) (o : Obj) : (setBlock w b o).heap.size = w.heap.size := by simp [setBlock]
theorem tab_append {P : Program} {t kt et ts ty kind ag id b c' : Nat} {N : Sz} {i : TypeInfo} {z : Value} {k : List Int} {kv : Value} {m : List (List Int × List PV × Nat)} {ad : Addr} {u : Value} {p : PV}
    (hu : P.underlying t = some (.map kt et)) (hkt : keyTy P kt = some ag) (hz : ∀ w, (zeroValue et).run P w = .ok (.slice none 0 0) w) (hts : P.underlying ts = some (.slice kind)) (hi : P.info? kind = some i) (hs : i.size = 1) (hiz : i.zero = some z) (hzc : z.cells.size = 1)
    (h : Sim C st a w φ F) (hB : st.H id = some (.tab ag kind m)) (hφ : φ id = some (some (b, N))) (hk : KI ag k kv) (hu1 : w.cell? ad = some u) (huo : u.oneCell' = true) (hup : RV w F u p) (hadF : F ad.block)
    (hb1 : ((tRow k m).2 + 1) * i.bytes ≤ 140737488355328) (hb2 : (tRow k m).2 + 1 ≤ 9223372036854775807) :
    ∃ (v0 : Value) (born : Nat) (w1 : World) (r : Value) (w2 w3 : World) (N' : Sz), (Instr.mapEntry t (.map (some b)) kv).run P w = .ok (.tuple #[v0, .int .i64 born]) w1 ∧
      (Builtin.append_ #[ts, ts] ty #[v0, .slice (some ad) 1 c']).run P w1 = .ok r w2 ∧ (Instr.entryStore t (.map (some b)) (.int .i64 born) r).run P w2 = .ok () w3 ∧
      Sim C (st.blk id (some (.tab ag kind (tApp k p m)))) a w3 (φ.set id (some (some (b, N')))) F := by
  obtain ⟨hbr, hnF, hG⟩ := h.own_at hB hφ
  have hbl := hbr.lt
  have hDl := hbr.ltD
  obtain ⟨es, clock, e1, e2, e3, e4⟩ := hbr
  obtain ⟨mA, mB, cs, n, A, B, e0, DA, D0, DB, f⟩ := e4.focus p clock hk
  rw [f.row] at hb1 hb2
  simp only at hb1 hb2
  obtain ⟨L, clock1, r1, r2, r3⟩ := run_mapEntry_tab hu hkt (hz w) e1 hk e4 e3 f
  rw [f.D] at e2
  have hnd := e2
  simp only [List.nodup_cons, List.mem_append, not_or] at hnd
  obtain ⟨⟨nA, n0, nB⟩, hnd2⟩ := hnd
  rw [List.nodup_append] at hnd2
  obtain ⟨hndA, hnd3, hAx⟩ := hnd2
  rw [List.nodup_append] at hnd3
  obtain ⟨hnd0, hndB, h0x⟩ := hnd3
  have memD : ∀ c, c ∈ N.D ↔ c ∈ DA ∨ c ∈ D0 ∨ c ∈ DB := fun c => by rw [f.D]; simp
  have hDF : ∀ c ∈ N.D, ¬ F c := fun c hc => (h.Dok id b N hφ c hc).2.1
  -- the world with the entry
  have k1F : KeptF F w (setBlock w b (.map L clock1)) := fun c hc => sb_other w b _ fun e => hnF (e ▸ hc)
  have hT1 : TR (setBlock w b (.map L clock1)) F kind cs n e0.val D0 := f.val.keep (fun _ k => k) k1F fun c hc => sb_other w b _ fun e => n0 (e ▸ hc)
  have hcell : (setBlock w b (.map L clock1)).cell? ad = some u := (World.cell?_of_block (k1F _ hadF)).trans hu1
  obtain ⟨r, w2, D1, s1, s2, s3, s4, s5, s6, s7, s8, s9⟩ := append_raw (w := setBlock w b (.map L clock1)) (c' := c') (ty := ty) hts hi hs hiz hzc hT1 hcell huo (hup.keep (fun _ k => k) k1F) (fun c hc => hDF c ((memD c).2 (.inr (.inl hc)))) (fun b' hb' => by rw [sb_size]; exact h.Fd b' hb') hb1 hb2
  rw [sb_size] at s6 s7 s8
  have hb2' : w2.heap[b]? = some (.map L clock1) := (s7 b hbl n0).trans (setBlock_same w b _ hbl)
  obtain ⟨L', t1, t2, t3⟩ := run_entryStore_tab r hb2' r2 r3
  have hsz3 : (setBlock w2 b (.map L' clock1)).heap.size = w2.heap.size := sb_size _ _ _
  have hb2l : b < w2.heap.size := Nat.lt_of_lt_of_le hbl s6
  -- what is kept from the first world to the last
  have hkeep : ∀ c, c < w.heap.size → c ≠ b → c ∉ D0 → (setBlock w2 b (.map L' clock1)).heap[c]? = w.heap[c]? := fun c hc hcb hc0 =>
    (sb_other w2 b _ hcb).trans ((s7 c hc hc0).trans (sb_other w b _ hcb))
  have k3F : KeptF F w (setBlock w2 b (.map L' clock1)) := fun c hc => hkeep c (h.Fd c hc) (fun e => hnF (e ▸ hc)) fun hc0 => hDF c ((memD c).2 (.inr (.inl hc0))) hc
  have k23F : KeptF F w2 (setBlock w2 b (.map L' clock1)) := fun c hc => sb_other w2 b _ fun e => hnF (e ▸ hc)
  have hD1b : b ∉ D1 := by
    rcases s8 with e | e
    · rw [e]; exact n0
    · rw [e]; simp; omega
  have hD1l : ∀ c ∈ D1, c < w2.heap.size := by
    rcases s2 with ⟨_, _, _, rfl⟩ | ⟨d, _, _, _, rfl, _, _, hd, _⟩
    · intro c hc; cases hc
    · intro c hc; simp at hc; subst hc; exact (Array.getElem?_eq_some_iff.1 hd).1
  have hTA : TRs ag (setBlock w2 b (.map L' clock1)) F kind mA A DA := f.a.keep (fun _ k => k) k3F fun c hc => hkeep c (hDl c ((memD c).2 (.inl hc))) (fun e => nA (e ▸ hc)) fun hc0 => hAx c hc c (by simp [hc0]) rfl
  have hTB : TRs ag (setBlock w2 b (.map L' clock1)) F kind mB B DB := f.b.keep (fun _ k => k) k3F fun c hc => hkeep c (hDl c ((memD c).2 (.inr (.inr hc)))) (fun e => nB (e ▸ hc)) fun hc0 => h0x c hc0 c hc rfl
  have hT1' : TR (setBlock w2 b (.map L' clock1)) F kind (cs ++ [p]) (n + 1) r D1 := s2.keep (fun _ k => k) k23F fun c hc => sb_other w2 b _ fun e => hD1b (e ▸ hc)
  have hD1x : ∀ c ∈ D1, c ∉ DA ∧ c ∉ DB := fun c hc => by
    rcases s8 with e | e
    · rw [e] at hc
      exact ⟨fun hA => hAx c hA c (by simp [hc]) rfl, fun hB' => h0x c hc c hB' rfl⟩
    · rw [e] at hc; simp at hc; subst hc
      exact ⟨fun hA => by have := hDl _ ((memD _).2 (.inl hA)); omega, fun hB' => by have := hDl _ ((memD _).2 (.inr (.inr hB'))); omega⟩
  have hD1n : D1.Nodup := by
    rcases s8 with e | e
    · rw [e]; exact hnd0
    · rw [e]; simp
  let N' : Sz := ⟨N.n, DA ++ (D1 ++ DB)⟩
  refine ⟨e0.val, e0.born, _, r, w2, _, N', r1, s1, t1, ?_⟩
  refine h.turnTab hφ (N' := N') rfl ?_ ?_ ?_ ?_ (fun c hc hcb hcD => hkeep c hc hcb fun hc0 => hcD ((memD c).2 (.inr (.inl hc0)))) (fun c hc => ?_) (fun c hc => ?_) ?_ ?_
  · exact (show (setBlock w2 b (.map L' clock1)).os = w2.os from rfl).trans (s3.trans rfl)
  · exact (show (setBlock w2 b (.map L' clock1)).tape = w2.tape from rfl).trans (s4.trans rfl)
  · exact (show (setBlock w2 b (.map L' clock1)).output = w2.output from rfl).trans (s5.trans rfl)
  · rw [hsz3]; exact s6
  · simp only [N', List.mem_append] at hc
    rcases hc with hc | hc | hc
    · exact .inl ((memD c).2 (.inl hc))
    · rcases s8 with e | e
      · rw [e] at hc; exact .inl ((memD c).2 (.inr (.inl hc)))
      · rw [e] at hc; simp at hc; exact .inr (by omega)
    · exact .inl ((memD c).2 (.inr (.inr hc)))
  · rw [hsz3]
    simp only [N', List.mem_append] at hc
    rcases hc with hc | hc | hc
    · exact Nat.lt_of_lt_of_le (hDl c ((memD c).2 (.inl hc))) s6
    · exact hD1l c hc
    · exact Nat.lt_of_lt_of_le (hDl c ((memD c).2 (.inr (.inr hc)))) s6
  · simp only [N', List.mem_append, not_or]
    exact ⟨nA, hD1b, nB⟩
  · refine ⟨L', clock1, setBlock_same w2 b _ hb2l, ?_, t3, ?_⟩
    · simp only [N', List.nodup_cons, List.mem_append, not_or]
      refine ⟨⟨nA, hD1b, nB⟩, ?_⟩
      rw [List.nodup_append]
      refine ⟨hndA, ?_, fun x hx y hy => ?_⟩
      · rw [List.nodup_append]
        exact ⟨hD1n, hndB, fun x hx y hy e => (hD1x x hx).2 (e ▸ hy)⟩
      · rcases List.mem_append.1 hy with hy | hy
        · exact fun e => (hD1x y hy).1 (e ▸ hx)
        · exact hAx x hx y (by simp [hy])
    · rw [t2, f.app]
      exact hTA.app ⟨D1, DB, rfl, by rw [f.key]; exact hk, hT1', hTB⟩
theorem wpOp_val {P : Program} {ops : Array Oper} {Q : Exit → Act → World → Prop} {i : Nat} {K : Act → World → Prop} {o : Oper} {s : Sem Value} {v : Value} (ho : ops[i]? = some o) (hg : o.guard = none) (he : execOp a.eval o = (do pure (.value (← s))))
    (hr : s.run P w = .ok v w') (hK : K (a.put o.dst v) w') : wpOp P ops Q i K a w := by
  unfold wpOp
  rw [ho]
  simp only [Region.wanted, hg, if_true]
  refine .inl ?_
  unfold Oper.wp
  rw [he]
  simp only [Sem.run_bind, hr, Result.andThen_ok, Sem.run_pure, Oper.upon]
  exact hK
theorem wpOp_unit {P : Program} {ops : Array Oper} {Q : Exit → Act → World → Prop} {i : Nat} {K : Act → World → Prop} {o : Oper} {s : Sem Unit} (ho : ops[i]? = some o) (hg : o.guard = none) (hd : o.dst = none) (he : execOp a.eval o = (do s; pure .skip))
    (hr : s.run P w = .ok () w') (hK : K a w') : wpOp P ops Q i K a w := by
  unfold wpOp
  rw [ho]
  simp only [Region.wanted, hg, if_true]
  refine .inl ?_
  unfold Oper.wp
  rw [he]
  simp only [Sem.run_bind, hr, Result.andThen_ok, Sem.run_pure, Oper.upon]
  rw [hd]
  exact hK
theorem put_get {a : Act} {d t : Nat} (v : Value) (h : t ≠ d) : (a.put (some d) v).eval (.tmp t) = a.eval (.tmp t) := getD_put_other h v
theorem put_same {a : Act} {d : Nat} (v : Value) (h : d < a.tmps.size) : (a.put (some d) v).eval (.tmp d) = v := getD_put_same h v
theorem put_size {a : Act} {d : Nat} (v : Value) : (a.put (some d) v).tmps.size = a.tmps.size := by simp [Act.put]
/-- 'm[k] = append(m[k], x)', five operations. -/
theorem add_tail {P : Program} {ops : Array Oper} {Q : Exit → Act → World → Prop} {t kt et ts ty kind ag id tm tk tx d1 d2 d3 d4 i0 i1 i2 i3 i4 : Nat} {i : TypeInfo} {z : Value} {k : List Int} {kx : AV} {m : List (List Int × List PV × Nat)} {p : PV}
    (hu : P.underlying t = some (.map kt et)) (hkt : keyTy P kt = some ag) (hz : ∀ w, (zeroValue et).run P w = .ok (.slice none 0 0) w) (hts : P.underlying ts = some (.slice kind)) (hi : P.info? kind = some i) (hs : i.size = 1) (hiz : i.zero = some z) (hzc : z.cells.size = 1)
    {o0 o1 o2 o3 o4 : Oper} (ho0 : ops[i0]? = some o0 ∧ o0.guard = none ∧ o0.dst = some d1 ∧ o0.op = .mapEntry t (.tmp tm) (.tmp tk)) (ho1 : ops[i1]? = some o1 ∧ o1.guard = none ∧ o1.dst = some d2 ∧ o1.op = .extract (.tmp d1) 0)
    (ho2 : ops[i2]? = some o2 ∧ o2.guard = none ∧ o2.dst = some d3 ∧ o2.type = ty ∧ o2.op = .call ⟨.builtin .append, #[.tmp d2, .tmp tx], #[ts, ts]⟩) (ho3 : ops[i3]? = some o3 ∧ o3.guard = none ∧ o3.dst = some d4 ∧ o3.op = .extract (.tmp d1) 1)
    (ho4 : ops[i4]? = some o4 ∧ o4.guard = none ∧ o4.dst = none ∧ o4.op = .entryStore t (.tmp tm) (.tmp d4) (.tmp d3))
    (hne : d1 ≠ d2 ∧ d1 ≠ d3 ∧ d1 ≠ d4 ∧ d2 ≠ d3 ∧ d2 ≠ d4 ∧ d3 ≠ d4 ∧ tm ≠ d1 ∧ tm ≠ d2 ∧ tm ≠ d3 ∧ tm ≠ d4 ∧ tx ≠ d1 ∧ tx ≠ d2) (hlt : d1 < C.nt ∧ d2 < C.nt ∧ d3 < C.nt ∧ d4 < C.nt)
    (h : Sim C st a w φ F) (hB : st.H id = some (.tab ag kind m)) (hm : st.σ tm = some (.map id)) (hk : st.σ tk = some kx) (hkk : keyAV ag kx = some k) (hx : st.σ tx = some (.p (.sl [p] 1)))
    (hb1 : ((tRow k m).2 + 1) * i.bytes ≤ 140737488355328) (hb2 : (tRow k m).2 + 1 ≤ 9223372036854775807)
    (hQ : ∀ a' w' φ', Sim C (((((st.blk id (some (.tab ag kind (tApp k p m)))).set d1 none).set d2 none).set d3 none).set d4 none) a' w' φ' F → Q .normal a' w') : wpOps P ops Q [i0, i1, i2, i3, i4] a w := by
  obtain ⟨n1, n2, n3, n4, n5, n6, n7, n8, n9, n10, n11, n12⟩ := hne
  obtain ⟨l1, l2, l3, l4⟩ := hlt
  obtain ⟨y, hy⟩ := h.live hB
  obtain ⟨b, N, rfl, hmv⟩ := (h.env tm _ hm : VR φ F w _ _) y hy
  have hKI := keyAV_KI hkk (h.env tk _ hk)
  have hxv : RV w F (a.tmps.getD tx undef) (.sl [p] 1) := h.env tx _ hx
  generalize hxx : a.tmps.getD tx undef = xv at hxv
  cases hxv with
  | sl vs hn hc hz0 ha hr =>
    rename_i ao c
    obtain ⟨ad, rfl, hadF, hcell⟩ := ha (by simp)
    have hu1 : w.cell? ad = some (vs 0) := by have := hcell 0 (by simp); simpa [Addr.add] using this
    have hup := hr 0 p rfl
    obtain ⟨v0, born, w1, r, w2, w3, N', r1, r2, r3, hfin⟩ := tab_append (ty := ty) (c' := c) hu hkt hz hts hi hs hiz hzc h hB hy hKI hu1 hup.oneCell hup hadF hb1 hb2
    have sz := h.nt
    rw [wpOps_cons]
    refine wpOp_val ho0.1 ho0.2.1 (s := Instr.mapEntry t (a.eval (.tmp tm)) (a.eval (.tmp tk))) (by simp [execOp, ho0.2.2.2]) (by rw [show a.eval (.tmp tm) = _ from hmv]; exact r1) ?_
    rw [ho0.2.2.1, wpOps_cons]
    have q1 : (a.put (some d1) (.tuple #[v0, .int .i64 born])).eval (.tmp d1) = .tuple #[v0, .int .i64 born] := put_same _ (by rw [sz]; exact l1)
    refine wpOp_val ho1.1 ho1.2.1 (s := Instr.extract (.tuple #[v0, .int .i64 born]) 0) (v := v0) (w' := w1) (by simp only [execOp, ho1.2.2.2]; rw [q1]) (by simp [Instr.extract]) ?_
    rw [ho1.2.2.1, wpOps_cons]
    refine wpOp_val ho2.1 ho2.2.1 (s := Builtin.append_ #[ts, ts] ty #[v0, .slice (some ad) 1 c]) (v := r) (w' := w2) ?_ r2 ?_
    · have e1 : ((a.put (some d1) (.tuple #[v0, .int .i64 born])).put (some d2) v0).eval (.tmp d2) = v0 := put_same _ (by rw [put_size, sz]; exact l2)
      have e2 : ((a.put (some d1) (.tuple #[v0, .int .i64 born])).put (some d2) v0).eval (.tmp tx) = .slice (some ad) 1 c := by
        rw [put_get _ n12, put_get _ n11]; exact hxx
      simp only [execOp, ho2.2.2.2.2, resolve, List.map_toArray, List.map_cons, List.map_nil, e1, e2, pure_bind, invoke, builtin, ho2.2.2.2.1]
    rw [ho2.2.2.1, wpOps_cons]
    refine wpOp_val ho3.1 ho3.2.1 (s := Instr.extract (.tuple #[v0, .int .i64 born]) 1) (v := .int .i64 born) (w' := w2) ?_ (by simp [Instr.extract]) ?_
    · have e1 : (((a.put (some d1) (.tuple #[v0, .int .i64 born])).put (some d2) v0).put (some d3) r).eval (.tmp d1) = .tuple #[v0, .int .i64 born] := by
        rw [put_get _ n2, put_get _ n1]; exact q1
      simp only [execOp, ho3.2.2.2]; rw [e1]
    rw [ho3.2.2.1, wpOps_cons]
    refine wpOp_unit ho4.1 ho4.2.1 ho4.2.2.1 (s := Instr.entryStore t (.map (some b)) (.int .i64 born) r) ?_ r3 ?_
    · have e1 : ((((a.put (some d1) (.tuple #[v0, .int .i64 born])).put (some d2) v0).put (some d3) r).put (some d4) (.int .i64 born)).eval (.tmp tm) = .map (some b) := by
        rw [put_get _ n10, put_get _ n9, put_get _ n8, put_get _ n7]; exact hmv
      have e2 : ((((a.put (some d1) (.tuple #[v0, .int .i64 born])).put (some d2) v0).put (some d3) r).put (some d4) (.int .i64 born)).eval (.tmp d4) = .int .i64 born := put_same _ (by rw [put_size, put_size, put_size, sz]; exact l4)
      have e3 : ((((a.put (some d1) (.tuple #[v0, .int .i64 born])).put (some d2) v0).put (some d3) r).put (some d4) (.int .i64 born)).eval (.tmp d3) = r := by
        rw [put_get _ n6]; exact put_same _ (by rw [put_size, put_size, sz]; exact l3)
      simp only [execOp, ho4.2.2.2]; rw [e1, e2, e3]
    refine hQ _ _ (φ.set id (some (some (b, N')))) ?_
    exact (((hfin.put l1 (x := none) (v := .tuple #[v0, .int .i64 born]) (fun y hy => by cases hy)).put l2 (x := none) (v := v0) (fun y hy => by cases hy)).put l3 (x := none) (v := r) (fun y hy => by cases hy)).put l4 (x := none) (v := .int .i64 born) (fun y hy => by cases hy)
end
end Go.AM
end
section
namespace Go.AM
open Go Go.RowKit
def evalPre (P : Program) (nt : Nat) (pins : List Nat) (ops : Array Oper) (n : Nat) (orcs : Orcs) (s : LS) : Option (LS × Prop) :=
  match runOps P nt ops orcs (ops.toList.take n) 0 s with
  | none => none
  | some (ocs, s', C) => if noneOf (s.ids ++ pins) (ocs.flatMap Oc.news) && fwdB ocs then some (s', C) else none
def evalPreS (P : Program) (nt : Nat) (pins : List Nat) (ops : Array Oper) (n : Nat) (orcs : Orcs) (s : LS) : Option LS := (evalPre P nt pins ops n orcs s).map (·.1)
def condPre (P : Program) (nt : Nat) (pins : List Nat) (ops : Array Oper) (n : Nat) (orcs : Orcs) (s : LS) : Prop :=
  match evalPre P nt pins ops n orcs s with
  | some (_, c) => c
  | none => False
section
variable {P : Program} {C : Ctx} {st : St} {a : Act} {w : World} {φ : Phi} {F : Nat → Prop} {ops : Array Oper} {orcs : Nat → Orc} {oc : Nat → Oc} {nt : Nat}
theorem ok_seq_k {pins : List Nat} (hnt : C.nt = nt) (hp : ∀ id, C.pin id ≠ none → id ∈ pins) {Q : Exit → Act → World → Prop} {rest : List Nat} {s' : St} : ∀ (L : List Nat) (st : St) (a : Act) (w : World) (φ : Phi) (F : Nat → Prop), Sim C st a w φ F → Ok P nt ops orcs oc L st s' →
    FreshAll oc L st → L.Pairwise (Fwd oc) → (∀ i ∈ L, ∀ id ∈ (oc i).news, id ∉ pins) → (∀ a' w' φ' F', Sim C s' a' w' φ' F' → wpOps P ops Q rest a' w') → wpOps P ops Q (L ++ rest) a w
  | [], st, a, w, φ, F, h, hok, _, _, _, hQ => by
    simp only [Ok] at hok; subst hok
    exact hQ a w φ F h
  | i :: L, st, a, w, φ, F, h, hok, hf, hw, hpn, hQ => by
    obtain ⟨o, hv, hok⟩ := hok
    rw [List.cons_append, wpOps_cons]
    rw [List.pairwise_cons] at hw
    refine valid_sound h hnt hv (fun id hid => ⟨hf i (by simp) id hid, Classical.byContradiction fun hn => hpn i (by simp) id hid (hp id hn)⟩) fun a' w' φ' F' hs => ?_
    refine ok_seq_k hnt hp L _ a' w' φ' F' hs hok (fun j hj id hid => ?_) hw.2 (fun j hj => hpn j (by simp [hj])) hQ
    have := hw.1 j hj id hid
    exact (hf j (by simp [hj]) id hid).step this.1 this.2
end
section
variable {P : Program} {nt : Nat} {ops : Array Oper} {orcs : Orcs}
theorem runOps_ok' : ∀ (os : List Oper) (i : Nat) (s s' : LS) (l : List Oc) (C : Prop), runOps P nt ops orcs os i s = some (l, s', C) → C → (∀ j, j < os.length → os[j]? = ops[i + j]?) →
    l.length = os.length ∧ ∀ (oc : Nat → Oc), (∀ j, j < l.length → oc (i + j) = l.getD j .skip) → Ok P nt ops orcs.at oc (List.range' i os.length) s.st s'.st
  | [], i, s, s', l, C, h, _, _ => by
    simp only [runOps, Option.some.injEq, Prod.mk.injEq] at h
    obtain ⟨rfl, rfl, _⟩ := h
    exact ⟨rfl, fun oc _ => rfl⟩
  | o :: os, i, s, s', l, C, h, hC, ho => by
    simp only [runOps] at h
    split at h
    case isFalse => cases h
    rename_i hlt
    have ho0 : ops[i]? = some o := by have := ho 0 (by simp); simpa using this.symm
    have hos : ∀ j, j < os.length → os[j]? = ops[i + 1 + j]? := fun j hj => by have := ho (j + 1) (by simpa using hj); simpa [Nat.add_assoc, Nat.add_comm 1 j] using this
    have hdst : ∀ d, o.dst = some d → d < nt := fun d hd => by
      unfold ltB at hlt; rw [hd] at hlt
      exact Nat.le_of_ble_eq_true hlt
    split at h
    · cases h
    · rename_i hg
      split at h
      · rename_i l' s1 C1 hr
        simp only [Option.some.injEq, Prod.mk.injEq] at h
        obtain ⟨rfl, rfl, rfl⟩ := h
        obtain ⟨hl, hk⟩ := runOps_ok' os (i + 1) _ _ _ _ hr hC hos
        refine ⟨by simp [hl], fun oc hoc => ?_⟩
        rw [List.length_cons, List.range'_succ]
        have h0 : oc i = .skip := by have := hoc 0 (by simp); simpa using this
        refine ⟨o, ⟨ho0, hdst, ?_⟩, ?_⟩
        · rw [h0]; exact hg
        · rw [h0, ← LS.step_st]
          exact hk oc fun j hj => by have := hoc (j + 1) (by simpa using hj); simpa [Nat.add_assoc, Nat.add_comm 1 j] using this
      · cases h
    · rename_i hg
      split at h
      · rename_i args out hf hs
        split at h
        · rename_i l' s1 C1 hr
          simp only [Option.some.injEq, Prod.mk.injEq] at h
          obtain ⟨rfl, rfl, rfl⟩ := h
          obtain ⟨hl, hk⟩ := runOps_ok' os (i + 1) _ _ _ _ hr hC.2 hos
          refine ⟨by simp [hl], fun oc hoc => ?_⟩
          rw [List.length_cons, List.range'_succ]
          have h0 : oc i = .ran out (AV.ids.idsOf args ++ (orcs.at i).fp) := by have := hoc 0 (by simp); simpa using this
          refine ⟨o, ⟨ho0, hdst, ?_⟩, ?_⟩
          · rw [h0]; exact ⟨hg, hs, hC.1, args, hf, rfl⟩
          · rw [h0, ← LS.step_st]
            exact hk oc fun j hj => by have := hoc (j + 1) (by simpa using hj); simpa [Nat.add_assoc, Nat.add_comm 1 j] using this
        · cases h
      · cases h
/-- A region whose last five operations are 'm[k] = append(m[k], x)'. -/
theorem awp_add {pins : List Nat} {Q : Exit → LS → Prop} {s s1 : LS} {rid n : Nat} (orcs : Orcs) (hsz : ops.size = n + 5) (he : evalPreS P nt pins ops n orcs s = some s1) (hc : Holds (condPre P nt pins ops n orcs s))
    {t kt et ts ty kind ag id tm tk tx d1 d2 d3 d4 : Nat} {i : TypeInfo} {z : Value} {k : List Int} {kx : AV} {m : List (List Int × List PV × Nat)} {p : PV}
    (hu : P.underlying t = some (.map kt et)) (hkt : keyTy P kt = some ag) (hz : ∀ w, (zeroValue et).run P w = .ok (.slice none 0 0) w) (hts : P.underlying ts = some (.slice kind)) (hi : P.info? kind = some i) (hs : i.size = 1) (hiz : i.zero = some z) (hzc : z.cells.size = 1)
    {o0 o1 o2 o3 o4 : Oper} (ho0 : ops[n]? = some o0 ∧ o0.guard = none ∧ o0.dst = some d1 ∧ o0.op = .mapEntry t (.tmp tm) (.tmp tk)) (ho1 : ops[n + 1]? = some o1 ∧ o1.guard = none ∧ o1.dst = some d2 ∧ o1.op = .extract (.tmp d1) 0)
    (ho2 : ops[n + 2]? = some o2 ∧ o2.guard = none ∧ o2.dst = some d3 ∧ o2.type = ty ∧ o2.op = .call ⟨.builtin .append, #[.tmp d2, .tmp tx], #[ts, ts]⟩) (ho3 : ops[n + 3]? = some o3 ∧ o3.guard = none ∧ o3.dst = some d4 ∧ o3.op = .extract (.tmp d1) 1)
    (ho4 : ops[n + 4]? = some o4 ∧ o4.guard = none ∧ o4.dst = none ∧ o4.op = .entryStore t (.tmp tm) (.tmp d4) (.tmp d3))
    (hne : d1 ≠ d2 ∧ d1 ≠ d3 ∧ d1 ≠ d4 ∧ d2 ≠ d3 ∧ d2 ≠ d4 ∧ d3 ≠ d4 ∧ tm ≠ d1 ∧ tm ≠ d2 ∧ tm ≠ d3 ∧ tm ≠ d4 ∧ tx ≠ d1 ∧ tx ≠ d2) (hlt : d1 < nt ∧ d2 < nt ∧ d3 < nt ∧ d4 < nt)
    (hB : s1.H.get id = some (.tab ag kind m)) (hm : s1.σ.get tm = some (.map id)) (hk : s1.σ.get tk = some kx) (hkk : keyAV ag kx = some k) (hx : s1.σ.get tx = some (.p (.sl [p] 1)))
    (hb1 : ((tRow k m).2 + 1) * i.bytes ≤ 140737488355328) (hb2 : (tRow k m).2 + 1 ≤ 9223372036854775807)
    (hd : Done P nt pins Q .normal ⟨(((s1.σ.put d1 none).put d2 none).put d3 none).put d4 none, s1.H.put id (some (.tab ag kind (tApp k p m)))⟩) : awp P nt pins (.region rid ops false) s Q := fun C a w φ F h1 h2 h3 h4 => by
  unfold evalPreS at he
  obtain ⟨⟨s1', cond⟩, he1, rfl⟩ := Option.map_eq_some_iff.1 he
  have hcond := hc.h
  unfold condPre at hcond
  rw [he1] at hcond
  unfold evalPre at he1
  split at he1
  · cases he1
  rename_i ocs s2 C1 hr
  split at he1
  case isFalse => cases he1
  rename_i hchk
  simp only [Option.some.injEq, Prod.mk.injEq] at he1
  obtain ⟨rfl, rfl⟩ := he1
  simp only [Bool.and_eq_true] at hchk
  obtain ⟨hn, hfw⟩ := hchk
  have hlen : (ops.toList.take n).length = n := by simp; omega
  obtain ⟨hl, hok⟩ := runOps_ok' (ops.toList.take n) 0 s s2 ocs C1 hr hcond (fun j hj => by rw [List.getElem?_take, if_pos (by omega)]; simp)
  have hok' := hok (fun k => ocs.getD k .skip) (fun j hj => by simp)
  rw [hlen] at hl hok'
  rw [← List.range_eq_range'] at hok'
  have hnew : ∀ i, i < n → ∀ id ∈ (ocs.getD i .skip).news, id ∉ s.ids ∧ id ∉ pins := fun i hi id hid => by
    have hil : i < ocs.length := by omega
    have hm : id ∈ ocs.flatMap Oc.news := List.mem_flatMap.2 ⟨ocs[i], List.getElem_mem hil, by simpa [hil] using hid⟩
    have := noneOf_iff hn id hm
    rw [List.mem_append, not_or] at this
    exact this
  refine wp_region ?_
  have hrange : List.range ops.size = List.range n ++ [n, n + 1, n + 2, n + 3, n + 4] := by
    rw [hsz]
    simp [List.range_succ]
  rw [hrange]
  refine ok_seq_k h1 h2 (List.range n) s.st a w φ F h4 hok' (fun j hj id hid => LS.fresh (hnew j (List.mem_range.1 hj) id hid).1) ?_ (fun i hi id hid => (hnew i (List.mem_range.1 hi) id hid).2) fun a' w' φ' F' hs' => ?_
  · rw [List.pairwise_iff_getElem]
    intro i j hi hj hij
    simp only [List.length_range] at hi hj
    simp only [List.getElem_range]
    exact fwdB_get hfw i j hij (by omega)
  · refine add_tail hu hkt hz hts hi hs hiz hzc ho0 ho1 ho2 ho3 ho4 hne (by rw [h1]; exact hlt) hs' hB hm hk hkk hx hb1 hb2 fun a2 w2 φ2 hs2 => ?_
    refine hd C a2 w2 φ2 F' h1 h2 h3 ?_
    have e : (LS.mk ((((s2.σ.put d1 none).put d2 none).put d3 none).put d4 none) (s2.H.put id (some (.tab ag kind (tApp k p m))))).st = ((((s2.st.blk id (some (.tab ag kind (tApp k p m)))).set d1 none).set d2 none).set d3 none).set d4 none := by
      rw [show (LS.mk ((((s2.σ.put d1 none).put d2 none).put d3 none).put d4 none) (s2.H.put id (some (.tab ag kind (tApp k p m))))) = (LS.mk ((LS.mk (((s2.σ.put d1 none).put d2 none).put d3 none) (s2.H.put id (some (.tab ag kind (tApp k p m))))).σ.put d4 none) (s2.H.put id (some (.tab ag kind (tApp k p m))))) from rfl, put_st_σ]
      have e3 := put_st_σ (LS.mk ((s2.σ.put d1 none).put d2 none) (s2.H.put id (some (.tab ag kind (tApp k p m))))) d3 none
      have e2 := put_st_σ (LS.mk (s2.σ.put d1 none) (s2.H.put id (some (.tab ag kind (tApp k p m))))) d2 none
      have e1 := put_st_σ (LS.mk s2.σ (s2.H.put id (some (.tab ag kind (tApp k p m))))) d1 none
      have e0 := put_st_H s2 id (some (.tab ag kind (tApp k p m)))
      simp only at e1 e2 e3
      rw [e3, e2, e1, e0]
    rw [e]
    exact hs2
end
end Go.AM
end
section
namespace Go.AM
open Go
structure Run where
  frm : Int
  to : Int
  deriving DecidableEq, Inhabited, Repr
structure Row where
  y : Int
  runs : List Run
  deriving DecidableEq, Inhabited, Repr
structure Region where
  rows : List Row
  deriving DecidableEq, Inhabited, Repr
structure Cell where
  x : Int
  y : Int
  deriving DecidableEq, Inhabited, Repr
structure Pt where
  x : Int
  y : Int
  deriving DecidableEq, Inhabited, Repr
structure Poly where
  pts : List Pt
  deriving DecidableEq, Inhabited, Repr
structure Track where
  role : Int
  closed : Bool
  cells : List Cell
  deriving DecidableEq, Inhabited, Repr
structure Crack where
  frm : Pt
  to : Pt
  deriving DecidableEq, Inhabited, Repr
structure Box where
  x : Int
  y : Int
  w : Int
  h : Int
  deriving DecidableEq, Inhabited, Repr
def Run.cs (a : Run) : List PV := [vI a.frm, vI a.to]
def Row.cs (a : Row) : List PV := [vI a.y, encL Run.cs a.runs]
def Region.cs (a : Region) : List PV := [encL Row.cs a.rows]
def Cell.cs (a : Cell) : List PV := [vI a.x, vI a.y]
def Pt.cs (a : Pt) : List PV := [vI a.x, vI a.y]
def Poly.cs (a : Poly) : List PV := [encL Pt.cs a.pts]
def Track.cs (a : Track) : List PV := [vI a.role, .bool a.closed, encL Cell.cs a.cells]
def Crack.cs (a : Crack) : List PV := [vI a.frm.x, vI a.frm.y, vI a.to.x, vI a.to.y]
def Box.cs (a : Box) : List PV := [vI a.x, vI a.y, .int .u8 a.w, .int .u8 a.h]
def iC (a : Int) : List PV := [vI a]
def bC (a : Bool) : List PV := [.bool a]
def Run.Ok (x : Run) : Prop := In64 x.frm ∧ In64 x.to
def Row.Ok (w : Row) : Prop := In64 w.y ∧ w.runs.length ≤ maxLen ∧ ∀ x ∈ w.runs, x.Ok
def Region.Ok (r : Region) : Prop := r.rows.length ≤ maxLen ∧ ∀ w ∈ r.rows, w.Ok
theorem Run.cs_len (a : Run) : a.cs.length = 2 := rfl
theorem Row.cs_len (a : Row) : a.cs.length = 2 := rfl
theorem Region.cs_len (a : Region) : a.cs.length = 1 := rfl
theorem Cell.cs_len (a : Cell) : a.cs.length = 2 := rfl
theorem Pt.cs_len (a : Pt) : a.cs.length = 2 := rfl
theorem Poly.cs_len (a : Poly) : a.cs.length = 1 := rfl
theorem Track.cs_len (a : Track) : a.cs.length = 3 := rfl
theorem Crack.cs_len (a : Crack) : a.cs.length = 4 := rfl
theorem iC_len (a : Int) : (iC a).length = 1 := rfl
theorem bC_len (a : Bool) : (bC a).length = 1 := rfl
end Go.AM
end
