/- Code over abstract states; loops as the rounds of a step; what a function's body shows of its calls. -/
import Derived.Scope
import Derived.LoopN
import Derived.KernelRfl
import Derived.Test.YtijdlphadhpabaaA6
section
namespace Go.AM
open Go Go.RowKit
def AQ (C : Ctx) (Q : Exit → LS → Prop) : Exit → Act → World → Prop := fun e a w => ∃ s φ F, Q e s ∧ Sim C s.st a w φ F
/-- From every frame and world that the state s speaks of, the code comes to an exit and a state of Q. -/
def awp (P : Program) (nt : Nat) (pins : List Nat) (c : Code) (s : LS) (Q : Exit → LS → Prop) : Prop :=
  ∀ (C : Ctx) (a : Act) (w : World) (φ : Phi) (F : Nat → Prop), C.nt = nt → (∀ id, C.pin id ≠ none → id ∈ pins) → (pins = [] → ∀ b, ¬ C.G b) → Sim C s.st a w φ F → c.wp P (AQ C Q) a w
def evalR (P : Program) (nt : Nat) (pins : List Nat) (ops : Array Oper) (draw : Bool) (orcs : Orcs) (gs : List Gh) (s : LS) : Option LS :=
  match evalRegion P nt pins ops draw orcs s with
  | some (s1, _) => runGh pins gs s1
  | none => none
def condR (P : Program) (nt : Nat) (pins : List Nat) (ops : Array Oper) (draw : Bool) (orcs : Orcs) (gs : List Gh) (s : LS) : Prop :=
  match evalRegion P nt pins ops draw orcs s with
  | some (s1, c) => c ∧ condGh pins gs s1
  | none => False
def thenQ (K : LS → Prop) (Q : Exit → LS → Prop) : Exit → LS → Prop
  | .normal, s => K s
  | e, s => Q e s
def inBlockQ (id : Nat) (Q : Exit → LS → Prop) : Exit → LS → Prop
  | .exit id', s => if id' = id then Q .normal s else Q (.exit id') s
  | e, s => Q e s
def noGotoQ (Q : Exit → LS → Prop) : Exit → LS → Prop
  | .goto _, _ => False
  | e, s => Q e s
/-- A step until it gives a result: with n rounds at most. -/
def loopF {S R : Type} (step : S → Option (S ⊕ R)) : Nat → S → Option R
  | 0, _ => none
  | n + 1, s => match step s with
    | none => none
    | some (.inl s') => loopF step n s'
    | some (.inr r) => some r
theorem loopF_mono {S R : Type} {step : S → Option (S ⊕ R)} : ∀ {n : Nat} {s : S} {r : R}, loopF step n s = some r → ∀ m, n ≤ m → loopF step m s = some r
  | 0, s, r, h, m, _ => by simp [loopF] at h
  | n + 1, s, r, h, 0, hm => absurd hm (by omega)
  | n + 1, s, r, h, m + 1, hm => by
    simp only [loopF] at h ⊢
    split at h
    · cases h
    · exact loopF_mono h m (by omega)
    · exact h
open Classical in
/-- A step until it gives a result; 'none' if it never does. -/
noncomputable def loopP {S R : Type} (step : S → Option (S ⊕ R)) (s : S) : Option R :=
  if h : ∃ n r, loopF step n s = some r then loopF step (Classical.choose h) s else none
theorem loopP_of {S R : Type} {step : S → Option (S ⊕ R)} {n : Nat} {s : S} {r : R} (h : loopF step n s = some r) : loopP step s = some r := by
  have hex : ∃ n r, loopF step n s = some r := ⟨n, r, h⟩
  unfold loopP
  rw [dif_pos hex]
  obtain ⟨r', hr'⟩ := Classical.choose_spec hex
  rw [hr']
  have h1 := loopF_mono h (max n (Classical.choose hex)) (Nat.le_max_left _ _)
  have h2 := loopF_mono hr' (max n (Classical.choose hex)) (Nat.le_max_right _ _)
  rw [h1] at h2
  exact h2.symm
theorem loopP_ex {S R : Type} {step : S → Option (S ⊕ R)} {s : S} {r : R} (h : loopP step s = some r) : ∃ n, loopF step n s = some r := by
  unfold loopP at h
  split at h
  · exact ⟨_, h⟩
  · cases h
theorem loopP_eq {S R : Type} (step : S → Option (S ⊕ R)) (s : S) : loopP step s = match step s with
    | none => none
    | some (.inl s') => loopP step s'
    | some (.inr r) => some r := by
  cases hs : step s with
  | none =>
    cases h : loopP step s with
    | none => rfl
    | some r =>
      obtain ⟨n, hn⟩ := loopP_ex h
      cases n with
      | zero => simp [loopF] at hn
      | succ n => simp [loopF, hs] at hn
  | some x =>
    cases x with
    | inl s' =>
      simp only
      cases h : loopP step s' with
      | some r =>
        obtain ⟨n, hn⟩ := loopP_ex h
        exact loopP_of (n := n + 1) (by simp only [loopF, hs]; exact hn)
      | none =>
        cases h2 : loopP step s with
        | none => rfl
        | some r =>
          obtain ⟨n, hn⟩ := loopP_ex h2
          cases n with
          | zero => simp [loopF] at hn
          | succ n =>
            simp only [loopF, hs] at hn
            rw [loopP_of hn] at h; cases h
    | inr r => exact loopP_of (n := 1) (by simp only [loopF, hs])
theorem loopP_inl {S R : Type} {step : S → Option (S ⊕ R)} {s s' : S} (h : step s = some (.inl s')) : loopP step s = loopP step s' := by rw [loopP_eq, h]
theorem loopP_inr {S R : Type} {step : S → Option (S ⊕ R)} {s : S} {r : R} (h : step s = some (.inr r)) : loopP step s = some r := by rw [loopP_eq, h]
/-- A proposition that nothing unfolds by accident. -/
structure Holds (p : Prop) : Prop where
  h : p
theorem holds_of {a : Prop} (b : Prop) (h : a = b) (hb : b) : Holds a := ⟨h ▸ hb⟩
section
variable {P : Program} {nt : Nat} {pins : List Nat} {Q : Exit → LS → Prop} {s : LS}
theorem awp_mono {c : Code} {Q' : Exit → LS → Prop} (h : awp P nt pins c s Q) (hq : ∀ e s, Q e s → Q' e s) : awp P nt pins c s Q' := fun C a w φ F h1 h2 h3 h4 =>
  wp_mono (h C a w φ F h1 h2 h3 h4) fun _ _ _ ⟨s, φ, F, q, hs⟩ => ⟨s, φ, F, hq _ _ q, hs⟩
theorem awp_gh {c : Code} (gs : List Gh) {s' : LS} (hr : runGh pins gs s = some s') (hc : Holds (condGh pins gs s)) (h : awp P nt pins c s' Q) : awp P nt pins c s Q := fun C a w φ F h1 h2 h3 h4 => by
  obtain ⟨φ', F', h5⟩ := runGh_sound h2 h3 hr hc.h h4
  exact h C a w φ' F' h1 h2 h3 h5
theorem awp_region (hm : P.follows .mixedOrders = true) {id : Nat} {ops : Array Oper} {draw : Bool} {orcs : Orcs} {gs : List Gh} {s' : LS} (he : evalR P nt pins ops draw orcs gs s = some s') (hc0 : Holds (condR P nt pins ops draw orcs gs s))
    (hQ : Q .normal s') : awp P nt pins (.region id ops draw) s Q := fun C a w φ F h1 h2 h3 h4 => by
  have hc := hc0.h
  unfold evalR at he
  unfold condR at hc
  split at he
  case h_2 => cases he
  rename_i s1 cond hev
  rw [hev] at hc
  refine region_sound hm h1 h2 hev hc.1 h4 fun a' w' φ' F' h5 => ?_
  obtain ⟨φ'', F'', h6⟩ := runGh_sound h2 h3 he hc.2 h5
  exact ⟨s', φ'', F'', hQ, h6⟩
theorem awp_seq {x y : Code} (h : awp P nt pins x s (thenQ (fun s' => awp P nt pins y s' Q) Q)) : awp P nt pins (.seq x y) s Q := fun C a w φ F h1 h2 h3 h4 => by
  refine wp_seq (wp_mono (h C a w φ F h1 h2 h3 h4) ?_)
  rintro e a' w' ⟨s', φ', F', q, hs⟩
  cases e with
  | normal => exact q C a' w' φ' F' h1 h2 h3 hs
  | _ => exact ⟨s', φ', F', q, hs⟩
theorem awp_seq_region (hm : P.follows .mixedOrders = true) {id : Nat} {ops : Array Oper} {draw : Bool} {y : Code} (orcs : Orcs) (gs : List Gh) {s' : LS} (he : evalR P nt pins ops draw orcs gs s = some s') (hc : Holds (condR P nt pins ops draw orcs gs s))
    (hQ : awp P nt pins y s' Q) : awp P nt pins (.seq (.region id ops draw) y) s Q := awp_seq (awp_region hm he hc hQ)
theorem awp_skip (h : Q .normal s) : awp P nt pins .skip s Q := fun _ _ _ φ F _ _ _ h4 => wp_skip ⟨s, φ, F, h, h4⟩
theorem awp_label {l : Nat} (h : Q .normal s) : awp P nt pins (.label l) s Q := fun _ _ _ φ F _ _ _ h4 => wp_label ⟨s, φ, F, h, h4⟩
theorem awp_exit {id : Nat} (h : Q (.exit id) s) : awp P nt pins (.exit id) s Q := fun _ _ _ φ F _ _ _ h4 => wp_exit ⟨s, φ, F, h, h4⟩
theorem awp_ret (h : Q .ret s) : awp P nt pins .ret s Q := fun _ _ _ φ F _ _ _ h4 => wp_ret ⟨s, φ, F, h, h4⟩
theorem awp_scope {c : Code} (h : awp P nt pins c s (noGotoQ Q)) : awp P nt pins (.scope c) s Q := fun C a w φ F h1 h2 h3 h4 => by
  refine wp_scope_straight (wp_mono (h C a w φ F h1 h2 h3 h4) ?_)
  rintro e a' w' ⟨s', φ', F', q, hs⟩
  cases e with
  | goto l => exact q.elim
  | _ => exact ⟨s', φ', F', q, hs⟩
theorem awp_block {id : Nat} {c : Code} (h : awp P nt pins c s (inBlockQ id Q)) : awp P nt pins (.block id c) s Q := fun C a w φ F h1 h2 h3 h4 => by
  refine wp_block (wp_mono (h C a w φ F h1 h2 h3 h4) ?_)
  rintro e a' w' ⟨s', φ', F', q, hs⟩
  cases e with
  | exit id' =>
    simp only [inBlockQ] at q
    simp only [Exit.inBlock]
    split
    · rename_i hi; rw [if_pos hi] at q; exact ⟨s', φ', F', q, hs⟩
    · rename_i hi; rw [if_neg hi] at q; exact ⟨s', φ', F', q, hs⟩
  | _ => exact ⟨s', φ', F', q, hs⟩
theorem awp_cond {t : Nat} {b : Bool} {x y : Code} (hf : s.σ.get t = some (.p (.bool b))) (h1 : b = true → awp P nt pins x s Q) (h2 : b = false → awp P nt pins y s Q) : awp P nt pins (.cond (.tmp t) x y) s Q := fun C a w φ F k1 k2 k3 k4 => by
  have hv : a.eval (.tmp t) = .bool b := VR.bool_of (k4.env t _ hf)
  exact wp_cond_split hv (fun e => h1 e C a w φ F k1 k2 k3 k4) (fun e => h2 e C a w φ F k1 k2 k3 k4)
theorem awp_true {t : Nat} {x y : Code} (hf : s.σ.get t = some (.p (.bool true))) (h1 : awp P nt pins x s Q) : awp P nt pins (.cond (.tmp t) x y) s Q := awp_cond hf (fun _ => h1) (fun e => by cases e)
theorem awp_false {t : Nat} {x y : Code} (hf : s.σ.get t = some (.p (.bool false))) (h1 : awp P nt pins y s Q) : awp P nt pins (.cond (.tmp t) x y) s Q := awp_cond hf (fun e => by cases e) (fun _ => h1)
/-- A loop: 'step' is what one round comes to. -/
theorem awp_loop {S R : Type} (St : S → LS) {step : S → Option (S ⊕ R)} {s0 : S} {r : R} {c : Code} (h : loopP step s0 = some r)
    (hb : ∀ s out, step s = some out → awp P nt pins c (St s) (fun e s' => match out with | .inl s1 => e = .normal ∧ s' = St s1 | .inr r' => e ≠ .normal ∧ (r' = r → Q e s'))) : awp P nt pins (.loop c) (St s0) Q := by
  obtain ⟨n, hn⟩ := loopP_ex h
  intro C a w φ F h1 h2 h3 h4
  refine wp_loop_rounds n ?_
  have key : ∀ (n : Nat) (s : S) (a : Act) (w : World) (φ : Phi) (F : Nat → Prop), loopF step n s = some r → Sim C (St s).st a w φ F → Code.rounds P c (AQ C Q) n a w := by
    intro n
    induction n with
    | zero => intro s a w φ F hs; simp [loopF] at hs
    | succ n ih =>
      intro s a w φ F hs hsim
      simp only [loopF] at hs
      rw [rounds_succ]
      split at hs
      · cases hs
      · rename_i s1 hst
        refine wp_mono (hb s _ hst C a w φ F h1 h2 h3 hsim) ?_
        rintro e a' w' ⟨s', φ', F', ⟨rfl, rfl⟩, hs'⟩
        exact ih s1 a' w' φ' F' hs hs'
      · rename_i r' hst
        injection hs with hs; subst hs
        refine wp_mono (hb s _ hst C a w φ F h1 h2 h3 hsim) ?_
        rintro e a' w' ⟨s', φ', F', ⟨hne, hq⟩, hs'⟩
        cases e with
        | normal => exact absurd rfl hne
        | _ => exact ⟨s', φ', F', hq rfl, hs'⟩
  exact key n s0 a w φ F hn h4
/-- A part with an outcome o, and what follows it. -/
theorem awp_unit {O : Type} (ex : O → Exit) (St : O → LS) {o : O} {x y : Code} (h : awp P nt pins x s (fun e s' => e = ex o ∧ s' = St o))
    (h1 : ex o = .normal → awp P nt pins y (St o) Q) (h2 : ex o ≠ .normal → Q (ex o) (St o)) : awp P nt pins (.seq x y) s Q := by
  refine awp_seq (awp_mono h ?_)
  rintro e s' ⟨rfl, rfl⟩
  cases he : ex o with
  | normal => exact h1 he
  | _ => exact by have := h2 (by rw [he]; simp); rw [he] at this; exact this
/-- A part that only goes on. -/
theorem awp_join {O : Type} (St : O → LS) {o : O} {x y : Code} (h : awp P nt pins x s (fun e s' => e = .normal ∧ s' = St o)) (h1 : awp P nt pins y (St o) Q) : awp P nt pins (.seq x y) s Q := by
  refine awp_seq (awp_mono h ?_)
  rintro e s' ⟨rfl, rfl⟩
  exact h1
end
/-! ### A function -/
def resAV (P : Program) (s : LS) : ResultVar → Option AV
  | .tmp t => s.σ.get t
  | .cell a t => match s.σ.get a with
    | some x => match semLoad P t none s.H [x] with
      | some out => out.val
      | none => none
    | none => none
def resAVs (P : Program) (s : LS) : List ResultVar → Option (List AV)
  | [] => some []
  | r :: rs => match resAV P s r, resAVs P s rs with
    | some x, some xs => some (x :: xs)
    | _, _ => none
def resOne : List AV → AV
  | [x] => x
  | l => .tup l
def resOf (P : Program) (fn : Func) (s : LS) : Option AV := (resAVs P s fn.results.toList).map resOne
def params : Nat → List AV → Env
  | _, [] => []
  | i, x :: xs => (i, x) :: params (i + 1) xs
theorem params_get : ∀ {l : List AV} {i t : Nat}, (params i l).get t = if t < i then none else l[t - i]?
  | [], i, t => by simp [params, Env.get]
  | x :: xs, i, t => by
    simp only [params, Env.get]
    by_cases h : i = t
    · subst h; rw [if_pos (by rw [Nat.beq_eq])]; simp
    · rw [if_neg (by rw [Nat.beq_eq]; exact h), params_get]
      by_cases h2 : t < i
      · rw [if_pos (by omega), if_pos h2]
      · rw [if_neg (by omega), if_neg h2, show t - i = (t - (i + 1)) + 1 by omega, List.getElem?_cons_succ]
theorem semLoad_none_cond {P : Program} {t : Nat} {H : AHeap} {x : AV} {out : Out} (h : semLoad P t none H [x] = some out) : out.cond := by
  unfold semLoad at h
  split at h
  · split at h
    · split at h
      · split at h
        · injection h with h; subst h; trivial
        · cases h
      · split at h
        · injection h with h; subst h; trivial
        · cases h
      · cases h
    · simp [semLoadRow] at h
    · cases h
  · simp [semLoadRow] at h
  · cases h
section
variable {P : Program} {C : Ctx} {a : Act} {w : World} {φ : Phi} {F : Nat → Prop} {s : LS}
def runRes (tmps : Array Value) : ResultVar → Sem Value
  | .tmp t => pure (tmps.getD t undef)
  | .cell a t => do loadVar t (← asAddr (tmps.getD a undef))
theorem resAV_run (h : Sim C s.st a w φ F) {r : ResultVar} {x : AV} (hr : resAV P s r = some x) : ∃ v, (runRes a.tmps r).run P w = .ok v w ∧ VR φ F w x v := by
  cases r with
  | tmp t => exact ⟨_, by simp [runRes], h.env t x hr⟩
  | cell t ty =>
    simp only [resAV] at hr
    split at hr
    case h_2 => cases hr
    rename_i y hy
    split at hr
    case h_2 => cases hr
    rename_i out ho
    have hv : VRs φ F w [y] [a.tmps.getD t undef] := by
      rw [VRs]; exact ⟨_, _, rfl, h.env t y hy, by rw [VRs]⟩
    obtain ⟨_, v, h1, z, h2, h3⟩ := semLoad_sound h (hp := s.H) (fun id B hB => hB) ho (semLoad_none_cond ho) hv
    rw [hr] at h2; injection h2 with h2; subst h2
    refine ⟨v, ?_, h3⟩
    have hp : ∃ ad, a.tmps.getD t undef = .pointer (some ad) := by
      unfold semLoad at ho
      split at ho
      · rename_i id off he
        simp only [List.cons.injEq, and_true] at he; subst he
        split at ho
        · rename_i hg
          obtain ⟨q, hq⟩ := h.live hg
          obtain ⟨b, N, _, e⟩ := (h.env t _ hy : VR φ F w _ _) q hq
          exact ⟨_, e⟩
        · rename_i hg
          obtain ⟨q, hq⟩ := h.live hg
          obtain ⟨b, N, _, e⟩ := (h.env t _ hy : VR φ F w _ _) q hq
          exact ⟨_, e⟩
        · cases ho
      · rename_i cs off he
        simp only [List.cons.injEq, and_true] at he; subst he
        obtain ⟨ad, vs, e, _⟩ := (h.env t _ hy : VR φ F w _ _)
        exact ⟨_, e⟩
      · cases ho
    obtain ⟨ad, hp⟩ := hp
    rw [hp] at h1
    simp only [runRes, hp, asAddr, pure_bind]
    simpa [Instr.loadAt, Instr.sureAddr] using h1
theorem resAVs_run (h : Sim C s.st a w φ F) : ∀ {rs : List ResultVar} {xs : List AV}, resAVs P s rs = some xs → ∃ vs : List Value, (rs.mapM (runRes a.tmps)).run P w = .ok vs w ∧ VRs φ F w xs vs
  | [], xs, hr => by
    simp only [resAVs, Option.some.injEq] at hr; subst hr
    exact ⟨[], by simp, by rw [VRs]⟩
  | r :: rs, xs, hr => by
    simp only [resAVs] at hr
    split at hr
    case h_2 => cases hr
    rename_i x xs' h1 h2
    injection hr with hr; subst hr
    obtain ⟨v, q1, q2⟩ := resAV_run h h1
    obtain ⟨vs, q3, q4⟩ := resAVs_run h h2
    refine ⟨v :: vs, ?_, by rw [VRs]; exact ⟨v, vs, rfl, q2, q4⟩⟩
    simp [List.mapM_cons, q1, q3]
theorem resOf_run (h : Sim C s.st a w φ F) {fn : Func} {x : AV} (hr : resOf P fn s = some x) : ∃ v, (results fn a.tmps).run P w = .ok v w ∧ VR φ F w x v := by
  unfold resOf at hr
  obtain ⟨xs, h1, rfl⟩ := Option.map_eq_some_iff.1 hr
  obtain ⟨vs, h2, h3⟩ := resAVs_run h h1
  have he : results fn a.tmps = (do
      let vs ← fn.results.toList.mapM (runRes a.tmps)
      pure (if h : vs.toArray.size = 1 then vs.toArray[0] else .tuple vs.toArray)) := by
    unfold results
    rw [Array.mapM_eq_mapM_toList]
    simp only [map_eq_pure_bind, bind_assoc, pure_bind]
    congr 1
  rw [he]
  simp only [Sem.run_bind, h2, Result.andThen_ok, Sem.run_pure]
  refine ⟨_, rfl, ?_⟩
  match xs, vs, h3 with
  | [], _, h3 => rw [VRs] at h3; subst h3; exact ⟨[], rfl, by rw [VRs]⟩
  | [x], _, h3 =>
    rw [VRs] at h3
    obtain ⟨u, r, rfl, q1, q2⟩ := h3
    rw [VRs] at q2; subst q2
    exact q1
  | x :: y :: xs, vs, h3 =>
    have hl := h3.length
    have : ¬ vs.toArray.size = 1 := by simp at hl ⊢; omega
    rw [dif_neg this]
    exact ⟨vs, rfl, h3⟩
end
/-- What a function's body shows of its calls. -/
theorem aspec_of {P : Program} {f : Nat} {fn : Func} {c : Code} {args : List AV} {h : AHeap} {res : AV} {h' : AHeap} (hf : P.funcs[f]? = some fn) (hb : fn.body = some c) (hn : (fn.name == "runtime.NumGoroutine") = false)
    (hl : args.length ≤ fn.ntmps) (hw : awp P fn.ntmps (h.map (·.1)) c ⟨params 0 args, h⟩ (fun e s => (e = .normal ∨ e = .ret) ∧ resOf P fn s = some res ∧ pickH s.H (h'.map (·.1)) = h')) : ASpec P f args h res h' := by
  refine ⟨⟨fn, hf, by rw [hb]; rfl, hn⟩, fun w vs φ F hFd hH hdom hinj hsep hDok hv => ?_⟩
  have hlen := hv.length
  refine calls_of_wp hf hb ?_
  let C : Ctx := ⟨w, fn.ntmps, F, fun c => ∃ id b N, φ id = some (some (b, N)) ∧ (c = b ∨ c ∈ N.D), φ⟩
  have hsim : Sim C (LS.mk (params 0 args) h).st { tmps := vs.toArray ++ Array.replicate (fn.ntmps - vs.toArray.size) undef, defers := [] } w φ F := {
    nt := by simp [C]; omega
    df := rfl
    os := rfl
    tape := rfl
    output := rfl
    size := Nat.le_refl _
    old := fun _ _ _ => rfl
    Fd := hFd
    Fo := fun _ hb => .inl hb
    Fi := fun _ hb => hb
    env := fun t x hx => by
      have hx' : (params 0 args).get t = some x := hx
      rw [params_get, if_neg (by omega)] at hx'
      obtain ⟨v, h1, h2⟩ := hv.get _ _ hx'
      have : (vs.toArray ++ Array.replicate (fn.ntmps - vs.toArray.size) undef).getD t undef = v := by
        rw [Array.getD_eq_getD_getElem?, Array.getElem?_append_left (by simp; have := (List.getElem?_eq_some_iff.1 h1).1; omega)]
        simp only [Nat.sub_zero] at h1
        simp [h1]
      rw [this]
      exact h2
    own := fun id B hB => by
      obtain ⟨x, hx, hs⟩ := hH id B hB
      refine ⟨x, hx, ?_⟩
      cases x with
      | none => exact hs
      | some x => obtain ⟨b, N⟩ := x; exact ⟨hs.1, hs.2, .inl ⟨id, b, N, hx, .inl rfl⟩⟩
    dom := hdom
    inj := hinj
    sep := hsep
    Dok := fun id b N hx c hc => ⟨(hDok id b N hx c hc).1, (hDok id b N hx c hc).2, .inl ⟨id, b, N, hx, .inr hc⟩⟩
    pin := fun id x hx _ => ⟨x, hx, Like.refl x⟩ }
  refine wp_mono (hw C _ w φ F rfl (fun id hid => ?_) (fun hp c ⟨id, b, N, hid, _⟩ => ?_) hsim) ?_
  · cases hx : φ id with
    | none => exact absurd hx hid
    | some x =>
      have := hdom id x hx
      cases hg : h.get id with
      | none => exact absurd hg this
      | some B => exact get_keys hg
  · have := hdom id _ hid
    cases hg : h.get id with
    | none => exact this hg
    | some B => have := get_keys hg; rw [hp] at this; cases this
  · rintro e a' w' ⟨s', φ', F', ⟨he, hres, hH'⟩, hs⟩
    obtain ⟨v, hv1, hv2⟩ := resOf_run hs hres
    let φ'' : Phi := fun id => if (AHeap.get h' id).isSome then φ' id else none
    have hle : φ''.Le φ' := fun id x hx => by
      simp only [φ''] at hx
      split at hx
      · exact hx
      · cases hx
    have hget : ∀ id B, AHeap.get h' id = some B → s'.H.get id = some B := fun id B hB => by rw [← hH'] at hB; exact pickH_get hB
    have hgoal : a'.defers = [] ∧ ∃ v, (results fn a'.tmps).run P w' = .ok v w' ∧ ∃ v' φ' F', Ending.returned v = .returned v' ∧ After w φ F w' φ' F' h' ∧ VR φ' F' w' res v' := by
      refine ⟨hs.df, v, hv1, v, φ'', F', rfl, ?_, VR.keep hle (fun _ k => k) (KeptF.refl F' w') _ hv2⟩
      exact {
        os := hs.os
        tape := hs.tape
        output := hs.output
        size := hs.size
        old := fun b hb hno => hs.old b hb fun ⟨id, b', N, hid, hc⟩ => by
          have := hno id b' N hid
          rcases hc with hc | hc
          · exact this.1 hc
          · exact this.2 hc
        Fi := hs.Fi
        Fd := fun b hb => ⟨hs.Fd b hb, (hs.Fo b hb)⟩
        heap := fun id B hB => by
          obtain ⟨x, hx, hsp⟩ := hs.own id B (hget id B hB)
          refine ⟨x, by simp only [φ'']; rw [hB]; exact hx, ?_⟩
          cases x with
          | none => exact hsp
          | some x => exact ⟨hsp.1.keep hle (fun _ k => k) (KeptF.refl F' w') rfl, hsp.2.1⟩
        place := fun id b N hid0 c hc => by
          have hid := hle _ _ hid0
          have : C.G c ∨ C.w0.heap.size ≤ c := by
            rcases hc with rfl | hc
            · cases hB : s'.H.get id with
              | none => exact absurd hB (hs.dom id _ hid)
              | some B => exact (hs.own_at (show s'.st.H id = some B from hB) hid).2.2
            · exact (hs.Dok id b N hid c hc).2.2
          rcases this with ⟨i, b', N', hi, hc'⟩ | hge
          · exact .inl ⟨i, b', N', hi, hc'⟩
          · exact .inr hge
        dom := fun id x hx => by
          simp only [φ''] at hx
          split at hx
          · rename_i hso; intro hn; rw [hn] at hso; cases hso
          · cases hx
        inj := fun id id' b N N' h1 h2 => hs.inj id id' b N N' (hle _ _ h1) (hle _ _ h2)
        sep := fun id id' b b' N N' c h1 h2 => hs.sep id id' b b' N N' c (hle _ _ h1) (hle _ _ h2)
        Dok := fun id b N h1 c hc => ⟨(hs.Dok id b N (hle _ _ h1) c hc).1, (hs.Dok id b N (hle _ _ h1) c hc).2.1⟩
        pin := fun id x hx hne => by
          cases hB : AHeap.get h' id with
          | none => exact absurd hB hne
          | some B =>
            simp only [φ'']; rw [hB]
            exact hs.pin id x hx (by rw [show s'.st.H id = some B from hget id B hB]; simp) }
    rcases he with rfl | rfl
    · exact hgoal
    · exact hgoal
/-! ### Other numbers -/
def AHeap.ren (r : Nat → Nat) : AHeap → AHeap
  | [] => []
  | (i, B) :: h => (r i, B.ren r) :: AHeap.ren r h
theorem AHeap.ren_get {r : Nat → Nat} (hr : ∀ k, r (r k) = k) : ∀ (h : AHeap) (id : Nat), AHeap.get (AHeap.ren r h) id = (AHeap.get h (r id)).map (ABlk.ren r)
  | [], _ => rfl
  | (i, B) :: h, id => by
    simp only [AHeap.ren, AHeap.get]
    by_cases e : r i = id
    · rw [if_pos (by rw [Nat.beq_eq]; exact e), if_pos (by rw [Nat.beq_eq, ← e, hr])]; rfl
    · rw [if_neg (by rw [Nat.beq_eq]; exact e), if_neg (by rw [Nat.beq_eq]; exact fun h => e (by rw [h, hr]))]
      exact AHeap.ren_get hr h id
theorem renL_ren {r : Nat → Nat} (hr : ∀ k, r (r k) = k) : (∀ x : AV, AV.ren r (AV.ren r x) = x) := by
  intro x
  induction x using AV.rec (motive_2 := fun l => AV.renL r (AV.renL r l) = l) with
  | p v => rfl
  | agg cs ih => simp only [AV.ren, ih]
  | tup cs ih => simp only [AV.ren, ih]
  | ptr id off => simp only [AV.ren, hr]
  | rp cs off => rfl
  | own id off n sz => simp only [AV.ren, hr]
  | nils => rfl
  | nilm => rfl
  | map id => simp only [AV.ren, hr]
  | fn f a b iha ihb => simp only [AV.ren, iha, ihb]
  | nil => rfl
  | cons a l iha ihl => simp only [AV.renL, iha, ihl]
theorem renL_renL {r : Nat → Nat} (hr : ∀ k, r (r k) = k) : ∀ l : List AV, AV.renL r (AV.renL r l) = l
  | [] => rfl
  | a :: l => by simp only [AV.renL, renL_ren hr, renL_renL hr l]
theorem ABlk.ren_ren {r : Nat → Nat} (hr : ∀ k, r (r k) = k) : ∀ B : ABlk, (B.ren r).ren r = B
  | .row _ _ => rfl
  | .lit _ _ => by simp only [ABlk.ren, renL_renL hr]
  | .tab _ _ _ => rfl
  | .ptab _ _ => rfl
  | .ptx _ _ _ _ _ => rfl
  | .obj _ => rfl
theorem HeapOK.ren {φ φ' : Phi} {F : Nat → Prop} {w : World} {r : Nat → Nat} (hr : ∀ k, r (r k) = k) (hφ : ∀ k, φ' k = φ (r k)) {h : AHeap} (hh : HeapOK φ F w h) : HeapOK φ' F w (AHeap.ren r h) := fun id B hB => by
  rw [AHeap.ren_get hr] at hB
  obtain ⟨B0, hB0, rfl⟩ := Option.map_eq_some_iff.1 hB
  obtain ⟨x, hx, hs⟩ := hh _ _ hB0
  refine ⟨x, by rw [hφ]; exact hx, ?_⟩
  cases x with
  | none => obtain ⟨ty, rfl⟩ := hs; exact ⟨ty, rfl⟩
  | some x => exact ⟨BR.ren (fun id _ y hy => by rw [hφ, hr] at hy; exact hy) hs.1, hs.2⟩
theorem ASpec.ren {P : Program} {f : Nat} {args : List AV} {h : AHeap} {res : AV} {h' : AHeap} (hs : ASpec P f args h res h') (r : Nat → Nat) (hr : ∀ k, r (r k) = k) :
    ASpec P f (AV.renL r args) (AHeap.ren r h) (AV.ren r res) (AHeap.ren r h') := by
  refine ⟨hs.1, fun w vs φ F hFd hH hdom hinj hsep hDok hv => ?_⟩
  let φ0 : Phi := fun k => φ (r k)
  have hrinj : ∀ a b, r a = r b → a = b := fun a b e => by rw [← hr a, e, hr]
  have hH0 : HeapOK φ0 F w h := by
    have := HeapOK.ren (φ' := φ0) hr (fun _ => rfl) hH
    have e : AHeap.ren r (AHeap.ren r h) = h := by
      clear hs hH hdom this
      induction h with
      | nil => rfl
      | cons x h ih => obtain ⟨i, B⟩ := x; simp only [AHeap.ren, hr, ABlk.ren_ren hr, ih]
    rwa [e] at this
  have hv0 : VRs φ0 F w args vs := by
    have := VRs.ren (φ' := φ0) (r := r) (AV.renL r args) (fun id _ y hy => by simp only [φ0, hr] at hy; exact hy) hv
    rwa [renL_renL hr] at this
  refine (hs.2 w vs φ0 F hFd hH0 (fun id x hx => ?_) (fun id id' b N N' h1 h2 => hrinj _ _ (hinj _ _ b N N' h1 h2)) (fun id id' b b' N N' c h1 h2 hc hc' => ⟨hrinj _ _ (hsep _ _ b b' N N' c h1 h2 hc hc').1, (hsep _ _ b b' N N' c h1 h2 hc hc').2⟩) (fun id b N h1 => hDok _ b N h1) hv0).mono ?_
  · have := hdom (r id) x hx
    rw [AHeap.ren_get hr, hr] at this
    intro hn; exact this (by rw [hn]; rfl)
  · rintro e w' ⟨v, φ1, F', rfl, hA, hres⟩
    let φ' : Phi := fun k => φ1 (r k)
    refine ⟨v, φ', F', rfl, ?_, VR.ren (φ' := φ') res (fun id _ y hy => by simp only [φ', hr] at hy; exact hy) hres⟩
    exact {
      os := hA.os
      tape := hA.tape
      output := hA.output
      size := hA.size
      old := fun b hb hno => hA.old b hb fun id b' N hid => hno (r id) b' N hid
      Fi := hA.Fi
      Fd := fun b hb => ⟨(hA.Fd b hb).1, by
        rcases (hA.Fd b hb).2 with h1 | ⟨i, b', N', hi, hc'⟩ | h1
        · exact .inl h1
        · exact .inr (.inl ⟨r i, b', N', hi, hc'⟩)
        · exact .inr (.inr h1)⟩
      heap := HeapOK.ren hr (fun _ => rfl) hA.heap
      place := fun id b N hid c hc => by
        rcases hA.place (r id) b N hid c hc with ⟨i, b', N', hi, hc'⟩ | hge
        · exact .inl ⟨r i, b', N', hi, hc'⟩
        · exact .inr hge
      dom := fun id x hx => by
        have := hA.dom (r id) x hx
        rw [AHeap.ren_get hr]
        intro hn; exact this (by simpa using hn)
      inj := fun id id' b N N' h1 h2 => hrinj _ _ (hA.inj _ _ b N N' h1 h2)
      sep := fun id id' b b' N N' c h1 h2 hc hc' => ⟨hrinj _ _ (hA.sep _ _ b b' N N' c h1 h2 hc hc').1, (hA.sep _ _ b b' N N' c h1 h2 hc hc').2⟩
      Dok := fun id b N h1 => hA.Dok _ b N h1
      pin := fun id x hx hne => by
        refine hA.pin (r id) x (by simp only [φ0, hr]; exact hx) fun hn => hne ?_
        rw [AHeap.ren_get hr, hn]; rfl }
def swap (i j k : Nat) : Nat := if Nat.beq k i then j else if Nat.beq k j then i else k
theorem swap_swap (i j k : Nat) : swap i j (swap i j k) = k := by
  have hb : ∀ a b, Nat.beq a b = decide (a = b) := fun a b => by
    by_cases h : a = b
    · subst h; simp
    · rw [decide_eq_false h]; cases hx : Nat.beq a b
      · rfl
      · rw [Nat.beq_eq] at hx; exact absurd hx h
  unfold swap
  simp only [hb, decide_eq_true_eq]
  split
  · split
    · omega
    · simp_all
  · split
    · simp_all
    · simp_all
theorem ASpec.at {P : Program} {f : Nat} {args : List AV} {h : AHeap} {res : AV} {h' : AHeap} (hs : ASpec P f args h res h') (i j : Nat) :
    ASpec P f (AV.renL (swap i j) args) (AHeap.ren (swap i j) h) (AV.ren (swap i j) res) (AHeap.ren (swap i j) h') := hs.ren _ (swap_swap i j)
end Go.AM
end
section
namespace Go.AM
open Go Go.RowKit
/-! ### Parts of a model -/
def chk {α : Type} (p : Prop) [Decidable p] (k : Option α) : Option α := if p then k else none
def ifB {α : Type} (b : Bool) (x y : Option α) : Option α := match b with | true => x | false => y
def getI {α : Type} (l : List α) (i : Int) : Option α := if 0 ≤ i then l[i.toNat]? else none
instance (k : IntKind) (n : Int) : Decidable (InR k n) := by cases k <;> unfold InR <;> infer_instance
theorem chk_el {α : Type} {p : Prop} [Decidable p] {k : Option α} {r : α} {G : Prop} (h : chk p k = some r) (f : p → k = some r → G) : G := by
  unfold chk at h
  split at h
  · rename_i hp; exact f hp h
  · cases h
theorem bind_el {α β : Type} {m : Option α} {k : α → Option β} {r : β} {G : Prop} (h : m.bind k = some r) (f : ∀ x, m = some x → k x = some r → G) : G := by
  cases m with
  | none => cases h
  | some x => exact f x rfl h
theorem ifB_el {α : Type} {b : Bool} {x y : Option α} {r : α} {G : Prop} (h : ifB b x y = some r) (f : b = true → x = some r → G) (g : b = false → y = some r → G) : G := by
  cases b with
  | true => exact f rfl h
  | false => exact g rfl h
theorem getI_el {α : Type} {l : List α} {i : Int} {x : α} (h : getI l i = some x) : l[i.toNat]? = some x ∧ 0 ≤ i ∧ i < l.length := by
  unfold getI at h
  split at h
  · rename_i h0
    have := (List.getElem?_eq_some_iff.1 h).1
    exact ⟨h, h0, by omega⟩
  · cases h
/-! ### Rows of typed elements -/
def encL {α : Type} (f : α → List PV) (l : List α) : PV := .sl (l.flatMap f) l.length
abbrev pB (b : Bool) : AV := .p (.bool b)
abbrev pI (n : Int) : AV := .p (.int .i64 n)
abbrev vI (n : Int) : PV := .int .i64 n
abbrev tV (x : AV) : Orc := { r := some x }
abbrev tB (b : Bool) : Orc := { r := some (.p (.bool b)) }
section
variable {α : Type} {f : α → List PV} {k : Nat}
theorem flat_len (hf : ∀ a, (f a).length = k) : ∀ (l : List α), (l.flatMap f).length = l.length * k
  | [] => by simp
  | a :: l => by simp [hf, flat_len hf l, Nat.succ_mul, Nat.add_comm]
theorem flat_at (hf : ∀ a, (f a).length = k) : ∀ (l : List α) (n : Nat) (x : α), l[n]? = some x → ∀ j, j < k → (l.flatMap f)[n * k + j]? = (f x)[j]?
  | [], n, x, h, _, _ => by simp at h
  | a :: l, 0, x, h, j, hj => by
    simp at h; subst h
    rw [List.flatMap_cons, List.getElem?_append_left (by rw [hf]; omega)]; simp
  | a :: l, n + 1, x, h, j, hj => by
    rw [List.flatMap_cons, List.getElem?_append_right (by rw [hf, Nat.succ_mul]; omega), hf, show (n + 1) * k + j - k = n * k + j by rw [Nat.succ_mul]; omega]
    exact flat_at hf l n x (by simpa using h) j hj
theorem flat_ne (hf : ∀ a, (f a).length = k) (hk : 0 < k) {l : List α} (h : l ≠ []) : l.flatMap f ≠ [] := fun e => by
  have h1 := flat_len hf l
  rw [e] at h1
  have h2 : 0 < l.length := List.length_pos_iff.2 h
  have := Nat.mul_pos h2 hk
  simp at h1; omega
theorem row_at (hf : ∀ a, (f a).length = k) {l : List α} {n : Nat} {x : α} (h : l[n]? = some x) {off j : Nat} (ho : off = n * k + j) (hj : j < k) : (l.flatMap f)[off]? = (f x)[j]? := by
  rw [ho]; exact flat_at hf l n x h j hj
theorem rowHas_of {cs : List PV} : ∀ (ps : List PV) (off : Nat), (∀ j p, ps[j]? = some p → cs[off + j]? = some p) → rowHas cs off (ps.map AV.p)
  | [], _, _ => trivial
  | p :: ps, off, h => ⟨by simpa using h 0 p rfl, rowHas_of ps (off + 1) fun j q hq => by rw [show off + 1 + j = off + (j + 1) by omega]; exact h (j + 1) q (by simpa using hq)⟩
theorem row_has (hf : ∀ a, (f a).length = k) {l : List α} {n : Nat} {x : α} (h : l[n]? = some x) {off o m : Nat} (ho : off = n * k + o) (hm : o + m ≤ k) : rowHas (l.flatMap f) off ((((f x).drop o).take m).map AV.p) := by
  refine rowHas_of _ _ fun j p hp => ?_
  rw [List.getElem?_take] at hp
  split at hp
  · rename_i hj
    rw [List.getElem?_drop] at hp
    rw [ho, show n * k + o + j = n * k + (o + j) by omega, flat_at hf l n x h (o + j) (by omega)]
    exact hp
  · cases hp
theorem setL_app : ∀ (vs : List PV) (a b : List PV) (o : Nat), setL (a ++ b) (a.length + o) vs = a ++ setL b o vs
  | [], a, b, o => rfl
  | v :: vs, a, b, o => by
    simp only [setL]
    rw [List.set_append_right _ _ (by omega), show a.length + o - a.length = o by omega, Nat.add_assoc]
    exact setL_app vs a (b.set o v) (o + 1)
theorem setL_left : ∀ (vs : List PV) (a b : List PV) (o : Nat), o + vs.length ≤ a.length → setL (a ++ b) o vs = setL a o vs ++ b
  | [], a, b, o, _ => rfl
  | v :: vs, a, b, o, h => by
    simp only [setL]
    simp only [List.length_cons] at h
    rw [List.set_append_left _ _ (by omega)]
    exact setL_left vs (a.set o v) b (o + 1) (by simp; omega)
theorem set_flat (hf : ∀ a, (f a).length = k) {vs : List PV} {o : Nat} {x x' : α} (hs : setL (f x) o vs = f x') (hle : o + vs.length ≤ k) : ∀ (l : List α) (n : Nat), l[n]? = some x → setL (l.flatMap f) (n * k + o) vs = (l.set n x').flatMap f
  | [], n, h => by simp at h
  | a :: l, 0, h => by
    simp at h; subst h
    simp only [List.flatMap_cons, List.set_cons_zero, Nat.zero_mul, Nat.zero_add]
    rw [setL_left _ _ _ _ (by rw [hf]; exact hle), hs]
  | a :: l, n + 1, h => by
    simp only [List.flatMap_cons, List.set_cons_succ]
    rw [show (n + 1) * k + o = (f a).length + (n * k + o) by rw [hf, Nat.succ_mul]; omega, setL_app, set_flat hf hs hle l n (by simpa using h)]
theorem set_row (hf : ∀ a, (f a).length = k) {l : List α} {n : Nat} {x x' : α} (h : l[n]? = some x) {off o : Nat} {vs : List PV} (ho : off = n * k + o) (hs : setL (f x) o vs = f x') (hle : o + vs.length ≤ k) (ty : TypeId) :
    some (ABlk.row ty (setL (l.flatMap f) off vs)) = some (ABlk.row ty ((l.set n x').flatMap f)) := by rw [ho, set_flat hf hs hle l n h]
theorem set_le (hf : ∀ a, (f a).length = k) {l : List α} {n : Nat} {x : α} (h : l[n]? = some x) {off o m : Nat} (ho : off = n * k + o) (hle : o + m ≤ k) : off + m ≤ (l.flatMap f).length := by
  rw [flat_len hf, ho]
  have hn := (List.getElem?_eq_some_iff.1 h).1
  have : (n + 1) * k ≤ l.length * k := Nat.mul_le_mul_right _ (by omega)
  rw [Nat.succ_mul] at this
  omega
theorem set_len {l : List α} {n id sz : Nat} {x' : α} : some (AV.own id 0 l.length sz) = some (AV.own id 0 (l.set n x').length sz) := by rw [List.length_set]
theorem app_row (f : α → List PV) (l l2 : List α) (ty : TypeId) : some (ABlk.row ty (l.flatMap f ++ l2.flatMap f)) = some (ABlk.row ty ((l ++ l2).flatMap f)) := by rw [List.flatMap_append]
theorem app_len (l l2 : List α) (id sz : Nat) : some (AV.own id 0 (l.length + l2.length) sz) = some (AV.own id 0 (l ++ l2).length sz) := by rw [List.length_append]
theorem rep_row (f : α → List PV) (n : Nat) (x : α) (ty : TypeId) : some (ABlk.row ty (List.replicate n (f x)).flatten) = some (ABlk.row ty ((List.replicate n x).flatMap f)) := by
  rw [List.flatMap_def, List.map_replicate]
theorem rep_len (n : Nat) (x : α) (id sz : Nat) : some (AV.own id 0 n sz) = some (AV.own id 0 (List.replicate n x).length sz) := by rw [List.length_replicate]
theorem take_row (hf : ∀ a, (f a).length = k) (l : List α) (n : Nat) : (l.flatMap f).take (n * k) = (l.take n).flatMap f := by
  induction l generalizing n with
  | nil => simp
  | cons a l ih =>
    cases n with
    | zero => simp
    | succ n => rw [List.flatMap_cons, List.take_succ_cons, List.flatMap_cons, List.take_append, hf, Nat.succ_mul, Nat.add_sub_cancel, ih, List.take_of_length_le (by rw [hf]; omega)]
theorem drop_row (hf : ∀ a, (f a).length = k) (l : List α) (n : Nat) : (l.flatMap f).drop (n * k) = (l.drop n).flatMap f := by
  induction l generalizing n with
  | nil => simp
  | cons a l ih =>
    cases n with
    | zero => simp
    | succ n => rw [List.flatMap_cons, List.drop_succ_cons, List.drop_append, hf, Nat.succ_mul, Nat.add_sub_cancel, ih, List.drop_of_length_le (by rw [hf]; omega)]; rfl
end
/-! ### Exits -/
section
variable {P : Program} {nt : Nat} {pins : List Nat} {Q : Exit → LS → Prop} {s : LS}
/-- Done, but for what is said of the state. -/
def Done (_P : Program) (nt : Nat) (pins : List Nat) (Q : Exit → LS → Prop) (e : Exit) (s : LS) : Prop :=
  ∀ (C : Ctx) (a : Act) (w : World) (φ : Phi) (F : Nat → Prop), C.nt = nt → (∀ id, C.pin id ≠ none → id ∈ pins) → (pins = [] → ∀ b, ¬ C.G b) → Sim C s.st a w φ F → AQ C Q e a w
theorem Done.mk {e : Exit} (h : Q e s) : Done P nt pins Q e s := fun _ _ _ φ F _ _ _ h4 => ⟨s, φ, F, h, h4⟩
theorem Done.gh {e : Exit} (gs : List Gh) {s' : LS} (hr : runGh pins gs s = some s') (hg : Holds (condGh pins gs s)) (h : Done P nt pins Q e s') : Done P nt pins Q e s := fun C a w φ F h1 h2 h3 h4 => by
  obtain ⟨φ', F', h5⟩ := runGh_sound h2 h3 hr hg.h h4
  exact h C a w φ' F' h1 h2 h3 h5
theorem Done.as {e e' : Exit} {s' : LS} (he : e' = e) (hs : s' = s) (h : Done P nt pins Q e s) : Done P nt pins Q e' s' := by rw [he, hs]; exact h
theorem doneExit {id : Nat} (h : Done P nt pins Q (.exit id) s) : awp P nt pins (.exit id) s Q := fun C a w φ F h1 h2 h3 h4 => Go.wp_exit (h C a w φ F h1 h2 h3 h4)
theorem doneRet (h : Done P nt pins Q .ret s) : awp P nt pins .ret s Q := fun C a w φ F h1 h2 h3 h4 => Go.wp_ret (h C a w φ F h1 h2 h3 h4)
theorem doneSkip (h : Done P nt pins Q .normal s) : awp P nt pins .skip s Q := fun C a w φ F h1 h2 h3 h4 => Go.wp_skip (h C a w φ F h1 h2 h3 h4)
theorem doneLabel {l : Nat} (h : Done P nt pins Q .normal s) : awp P nt pins (.label l) s Q := fun C a w φ F h1 h2 h3 h4 => Go.wp_label (h C a w φ F h1 h2 h3 h4)
/-- A part with an outcome, and what follows it. -/
theorem awp_tail {O : Type} {m : Option O} {o : O} (ex : O → Exit) (St : O → LS) {x : Code} (hm : m = some o) (h : ∀ o, m = some o → awp P nt pins x s (fun e s' => e = ex o ∧ s' = St o))
    (hd : Done P nt pins Q (ex o) (St o)) : awp P nt pins x s Q := fun C a w φ F h1 h2 h3 h4 => by
  refine wp_mono (h o hm C a w φ F h1 h2 h3 h4) ?_
  rintro e a' w' ⟨_, φ', F', ⟨rfl, rfl⟩, hs⟩
  exact hd C a' w' φ' F' h1 h2 h3 hs
theorem thenQ_n {K : LS → Prop} (h : K s) : thenQ K Q .normal s := h
theorem thenQ_x {K : LS → Prop} {k : Nat} (h : Q (.exit k) s) : thenQ K Q (.exit k) s := h
theorem thenQ_r {K : LS → Prop} (h : Q .ret s) : thenQ K Q .ret s := h
theorem inB_hit {k : Nat} (h : Q .normal s) : inBlockQ k Q (.exit k) s := by simp only [inBlockQ, if_true]; exact h
theorem inB_miss {k j : Nat} (hne : Nat.beq j k = false) (h : Q (.exit j) s) : inBlockQ k Q (.exit j) s := by
  simp only [inBlockQ]; rw [if_neg (fun e => by rw [e, show Nat.beq k k = true by rw [Nat.beq_eq]] at hne; cases hne)]; exact h
theorem inB_r {k : Nat} (h : Q .ret s) : inBlockQ k Q .ret s := h
theorem inB_n {k : Nat} (h : Q .normal s) : inBlockQ k Q .normal s := h
theorem noG_n (h : Q .normal s) : noGotoQ Q .normal s := h
theorem noG_r (h : Q .ret s) : noGotoQ Q .ret s := h
theorem noG_x {k : Nat} (h : Q (.exit k) s) : noGotoQ Q (.exit k) s := h
theorem awp_cond_t {t : Nat} {b : Bool} {x y : Code} (hf : s.σ.get t = some (.p (.bool b))) (hb : b = true) (h : awp P nt pins x s Q) : awp P nt pins (.cond (.tmp t) x y) s Q := by subst hb; exact awp_true hf h
theorem awp_cond_f {t : Nat} {b : Bool} {x y : Code} (hf : s.σ.get t = some (.p (.bool b))) (hb : b = false) (h : awp P nt pins y s Q) : awp P nt pins (.cond (.tmp t) x y) s Q := by subst hb; exact awp_false hf h
end
section
variable {P : Program} {nt : Nat} {pins : List Nat} {Q : Exit → LS → Prop} {s : LS}
theorem awp_regionD (hm : P.follows .mixedOrders = true) {id : Nat} {ops : Array Oper} {draw : Bool} {orcs : Orcs} {gs : List Gh} {s' : LS} (he : evalR P nt pins ops draw orcs gs s = some s') (hc : Holds (condR P nt pins ops draw orcs gs s))
    (hd : Done P nt pins Q .normal s') : awp P nt pins (.region id ops draw) s Q := fun C a w φ F h1 h2 h3 h4 => by
  have hr := awp_region (id := id) (Q := fun e s => e = .normal ∧ s = s') hm he hc ⟨rfl, rfl⟩ C a w φ F h1 h2 h3 h4
  refine Go.wp_mono hr ?_
  rintro e a' w' ⟨_, φ', F', ⟨rfl, rfl⟩, hs⟩
  exact hd C a' w' φ' F' h1 h2 h3 hs
theorem awp_loop' {S R : Type} (St : S → LS) {step : S → Option (S ⊕ R)} {s0 : S} {r : R} {c : Code} (h : loopP step s0 = some r) (hs : s = St s0)
    (hb : ∀ s out, step s = some out → awp P nt pins c (St s) (fun e s' => match out with | .inl s1 => e = .normal ∧ s' = St s1 | .inr r' => e ≠ .normal ∧ (r' = r → Q e s'))) : awp P nt pins (.loop c) s Q := by
  rw [hs]; exact awp_loop St h hb
end
theorem aspec_at {P : Program} {f : Nat} {args : List AV} {h : AHeap} {res : AV} {h' : AHeap} (hs : ASpec P f args h res h') (i j : Nat) {args2 : List AV} {h2 : AHeap} {res2 : AV} {h2' : AHeap}
    (e : (AV.renL (swap i j) args, AHeap.ren (swap i j) h, AV.ren (swap i j) res, AHeap.ren (swap i j) h') = (args2, h2, res2, h2')) : ASpec P f args2 h2 res2 h2' := by
  simp only [Prod.mk.injEq] at e
  obtain ⟨rfl, rfl, rfl, rfl⟩ := e
  exact hs.at i j
theorem take_len {α : Type} {l : List α} {hi : Int} (h : 0 ≤ hi ∧ hi ≤ (l.length : Int)) {id sz : Nat} : some (AV.own id 0 hi.toNat sz) = some (AV.own id 0 (l.take hi.toNat).length sz) := by
  rw [List.length_take, Nat.min_eq_left (by omega)]
theorem take_rowB {α : Type} {f : α → List PV} {k : Nat} (hf : ∀ a, (f a).length = k) (l : List α) (n : Nat) (ty : TypeId) : some (ABlk.row ty ((l.flatMap f).take (n * k))) = some (ABlk.row ty ((l.take n).flatMap f)) := by rw [take_row hf]
theorem take_sl {α : Type} {f : α → List PV} {k : Nat} (hf : ∀ a, (f a).length = k) {l : List α} {hi : Int} (h : 0 ≤ hi ∧ hi ≤ (l.length : Int)) : some (AV.p (.sl ((l.flatMap f).take (hi.toNat * k)) hi.toNat)) = some (AV.p (encL f (l.take hi.toNat))) := by
  rw [take_row hf]; unfold encL; rw [List.length_take, Nat.min_eq_left (by omega)]
theorem drop_sl {α : Type} {f : α → List PV} {k : Nat} (hf : ∀ a, (f a).length = k) {l : List α} {n : Nat} : some (AV.p (.sl ((l.flatMap f).drop (n * k)) (l.length - n))) = some (AV.p (encL f (l.drop n))) := by
  rw [drop_row hf]; unfold encL; rw [List.length_drop]
theorem told_b {b c : Bool} (h : b = c) : True ∧ some (AV.p (.bool b)) = some (AV.p (.bool c)) := ⟨trivial, by rw [h]⟩
abbrev UU : Prop := True
theorem TT : UU := trivial
end Go.AM
end
