/-
  Lemmas of this claim's own: what statements, pieces of code and calls come to, said forward. No condition.
-/
import Derived.Test.YtdmahionfllhnaaGreatDoorSim16
namespace Sim
open Go Go.MapKept

section
variable (P : Program) (E : EqT) (ov : OvT)

/-- A piece of code is run to its end; of what is known there, some is said. -/
def RunP (n : Nat) (c : Code) (env : Env) (m : Mem) (Q : Ex → Env → Mem → Prop) : Prop :=
  ∃ i ex f' m' e1, evCode P E (evCall P E ov i) i n c env m = some (ex, f', m') ∧ Sub e1 f' ∧ Q ex e1 m'

theorem RunP.sub {n : Nat} {c : Code} {e f : Env} {m : Mem} {Q : Ex → Env → Mem → Prop} (hs : Sub e f) (h : RunP P E ov n c e m Q) : RunP P E ov n c f m Q := by
  obtain ⟨i, ex, f', m', e1, h1, h2, h3⟩ := h
  obtain ⟨g', h4, h5⟩ := evCode_mono P E (fun _ _ _ _ h => h) (Nat.le_refl i) n c hs h1
  exact ⟨i, ex, g', m', e1, h4, h2.trans h5, h3⟩

theorem RunP.mono {n : Nat} {c : Code} {e : Env} {m : Mem} {Q Q' : Ex → Env → Mem → Prop} (h : RunP P E ov n c e m Q) (hq : ∀ ex e m, Q ex e m → Q' ex e m) : RunP P E ov n c e m Q' :=
  let ⟨i, ex, f', m', e1, h1, h2, h3⟩ := h; ⟨i, ex, f', m', e1, h1, h2, hq _ _ _ h3⟩

theorem RunP.seq {n : Nat} {a b : Code} {env : Env} {m : Mem} {Q : Ex → Env → Mem → Prop} (h : RunP P E ov n a env m fun ex e m' => match ex with | .normal => RunP P E ov n b e m' Q | ex => Q ex e m') : RunP P E ov n (.seq a b) env m Q := by
  obtain ⟨i, ex, f', m', e1, h1, h2, h3⟩ := h
  cases ex with
  | normal =>
    obtain ⟨j, ex2, f2, m2, e2, k1, k2, k3⟩ := RunP.sub P E ov h2 h3
    obtain ⟨g1, q1, q2⟩ := evCode_mono P E (evCall_mono P E ov (Nat.le_max_left i j)) (Nat.le_max_left i j) n a (Sub.refl env) h1
    obtain ⟨g2, r1, r2⟩ := evCode_mono P E (evCall_mono P E ov (Nat.le_max_right i j)) (Nat.le_max_right i j) n b q2 k1
    exact ⟨max i j, ex2, g2, m2, e2, by unfold evCode; rw [q1]; exact r1, k2.trans r2, k3⟩
  | exit id => exact ⟨i, _, f', m', e1, by unfold evCode; rw [h1], h2, h3⟩
  | ret => exact ⟨i, _, f', m', e1, by unfold evCode; rw [h1], h2, h3⟩

theorem RunP.loop {n : Nat} {c : Code} {env : Env} {m : Mem} {Q : Ex → Env → Mem → Prop} (h : RunP P E ov n c env m fun ex e m' => match ex with | .normal => RunP P E ov n (.loop c) e m' Q | ex => Q ex e m') : RunP P E ov n (.loop c) env m Q := by
  obtain ⟨i, ex, f', m', e1, h1, h2, h3⟩ := h
  cases ex with
  | normal =>
    obtain ⟨j, ex2, f2, m2, e2, k1, k2, k3⟩ := RunP.sub P E ov h2 h3
    have hj : j + 1 ≤ max i j + 1 := by omega
    obtain ⟨g1, q1, q2⟩ := evCode_mono P E (evCall_mono P E ov (show i ≤ max i j + 1 by omega)) (show i ≤ max i j + 1 by omega) n c (Sub.refl env) h1
    unfold evCode at k1
    have hit : ∀ (a b : Nat), a ≤ b → ∀ {e f : Env} {m : Mem}, Sub e f → iter (fun e m => evCode P E (evCall P E ov j) j n c e m) a e m = some (ex2, f2, m2) →
        ∃ f', iter (fun e m => evCode P E (evCall P E ov (max i j + 1)) (max i j + 1) n c e m) b f m = some (ex2, f', m2) ∧ Sub f2 f' := by
      intro a
      induction a with
      | zero => intro b _ e f m _ hr; cases hr
      | succ a iha =>
        intro b hab e f m hs hr
        obtain ⟨b, rfl⟩ : ∃ b', b = b' + 1 := ⟨b - 1, by omega⟩
        unfold iter at hr ⊢
        cases hx : evCode P E (evCall P E ov j) j n c e m with
        | none => rw [hx] at hr; cases hr
        | some r =>
          obtain ⟨ex1, e1, m1⟩ := r
          rw [hx] at hr
          obtain ⟨f1, t1, t2⟩ := evCode_mono P E (evCall_mono P E ov (show j ≤ max i j + 1 by omega)) (show j ≤ max i j + 1 by omega) n c hs hx
          simp only [t1]
          cases ex1 with
          | normal => exact iha b (by omega) t2 hr
          | exit id => cases hr; exact ⟨f1, rfl, t2⟩
          | ret => cases hr; exact ⟨f1, rfl, t2⟩
    obtain ⟨g2, r1, r2⟩ := hit j (max i j) (by omega) q2 k1
    exact ⟨max i j + 1, ex2, g2, m2, e2, by unfold evCode iter; simp only [q1]; exact r1, k2.trans r2, k3⟩
  | exit id =>
    obtain ⟨g1, q1, q2⟩ := evCode_mono P E (evCall_mono P E ov (show i ≤ i + 1 by omega)) (show i ≤ i + 1 by omega) n c (Sub.refl env) h1
    exact ⟨i + 1, _, g1, m', e1, by unfold evCode iter; simp only [q1], h2.trans q2, h3⟩
  | ret =>
    obtain ⟨g1, q1, q2⟩ := evCode_mono P E (evCall_mono P E ov (show i ≤ i + 1 by omega)) (show i ≤ i + 1 by omega) n c (Sub.refl env) h1
    exact ⟨i + 1, _, g1, m', e1, by unfold evCode iter; simp only [q1], h2.trans q2, h3⟩

/-! what is known is cut down to what is still wanted -/

def keepGo (L : Nat) (env : Env) : Nat → Env → Env
  | 0, acc => acc
  | t + 1, acc => keepGo L env t (if L.testBit t then (match env.get t with | some v => (t, v) :: acc | none => acc) else acc)
def keepM (n L : Nat) (env : Env) : Env := keepGo L env n []

theorem keepGo_sub (L : Nat) (env : Env) : ∀ (n : Nat) (acc : Env), Sub acc env → Sub (keepGo L env n acc) env
  | 0, _, h => h
  | n + 1, acc, h => by
    unfold keepGo
    refine keepGo_sub L env n _ ?_
    split
    · split
      · rename_i v hv
        intro t u ht
        simp only [Env.get] at ht
        split at ht
        · cases ht; subst_vars; exact hv
        · exact h t u ht
      · exact h
    · exact h
theorem keepM_sub (n L : Nat) (env : Env) : Sub (keepM n L env) env := keepGo_sub L env n [] (fun t v h => by simp [Env.get] at h)

def setD (n : Nat) (env : Env) (dst : Option Nat) (v : V) : Option Env :=
  match dst with
  | none => some env
  | some d => if d < n then some ((d, v) :: env) else none

theorem setD_put {n : Nat} {e f e' : Env} (h : Sub e f) {dst : Option Nat} {v : V} (hp : setD n e dst v = some e') : ∃ f', putD n f dst v = some f' ∧ Sub e' f' := by
  unfold setD at hp
  unfold putD
  split at hp
  · cases hp; exact ⟨f, rfl, h⟩
  · rename_i d
    split at hp
    · cases hp
      rename_i hd
      refine ⟨_, if_pos hd, fun t u ht => ?_⟩
      simp only [Env.get] at ht
      rw [Env.get_put]
      by_cases q : d = t
      · rw [if_pos q] at ht; rw [if_pos q.symm]; exact ht
      · rw [if_neg q] at ht; rw [if_neg (Ne.symm q)]; exact h t u ht
    · cases hp

/-! statements -/

def WOps (n : Nat) (ops : Array Oper) : List Oper → Env → Mem → (Env → Mem → Prop) → Prop
  | [], env, m, K => K env m
  | o :: r, env, m, K =>
    match o.guard with
    | none => W1 P E ov env m (fun v m' => Nw (setD n env o.dst v) fun env' => WOps n ops r env' m' K) o.op
    | some (j, want) => match (ops[j]?).bind (·.dst) with
      | some d => Nw (env.get d) fun g => GOp g want (fun k => W1 P E ov env m k o.op) m fun v m' => Nw (setD n env o.dst v) fun env' => WOps n ops r env' m' K
      | none => Nw (setD n env o.dst .und) fun env' => WOps n ops r env' m K

theorem WOps_sound {n : Nat} {ops : Array Oper} {K : Env → Mem → Prop} : ∀ {l : List Oper} {env f : Env} {m : Mem}, Sub env f → WOps P E ov n ops l env m K →
    ∃ i f' m' e1, evOps P E (evCall P E ov i) ops n l f m = some (f', m') ∧ Sub e1 f' ∧ K e1 m'
  | [], env, f, m, hs, h => ⟨0, f, m, env, rfl, hs, h⟩
  | o :: r, env, f, m, hs, h => by
    have tail : ∀ {i : Nat} {v : V} {m1 : Mem} {b : Bool} {env' f1 : Env}, stepOp P E (evCall P E ov i) ops n f m o = some (v, f1, m1, b) → Sub env' f1 → WOps P E ov n ops r env' m1 K →
        ∃ i f' m' e1, evOps P E (evCall P E ov i) ops n (o :: r) f m = some (f', m') ∧ Sub e1 f' ∧ K e1 m' := by
      intro i v m1 b env' f1 h1 h2 h3
      obtain ⟨j, f2, m2, e2, k1, k2, k3⟩ := WOps_sound h2 h3
      obtain ⟨g1, q1, q2⟩ := stepOp_mono P E (evCall_mono P E ov (Nat.le_max_left i j)) (Sub.refl f) h1
      obtain ⟨g2, r1, r2⟩ := evOps_mono P E (evCall_mono P E ov (Nat.le_max_right i j)) q2 k1
      exact ⟨max i j, g2, m2, e2, by unfold evOps; rw [q1]; exact r1, k2.trans r2, k3⟩
    have on : wantV ops f o = some true → W1 P E ov env m (fun v m' => Nw (setD n env o.dst v) fun env' => WOps P E ov n ops r env' m' K) o.op →
        ∃ i f' m' e1, evOps P E (evCall P E ov i) ops n (o :: r) f m = some (f', m') ∧ Sub e1 f' ∧ K e1 m' := by
      intro hw h
      obtain ⟨i, v, m1, hr, h⟩ := W1_sound P E ov hs h
      obtain ⟨env', hp, h⟩ := Nw_iff.1 h
      obtain ⟨f1, p1, p2⟩ := setD_put hs hp
      exact tail (i := i) (v := v) (b := isEff P o.op) (by unfold stepOp; rw [hw]; simp only [hr, p1, Option.map_some]) p2 h
    have off : wantV ops f o = some false → (Nw (setD n env o.dst .und) fun env' => WOps P E ov n ops r env' m K) →
        ∃ i f' m' e1, evOps P E (evCall P E ov i) ops n (o :: r) f m = some (f', m') ∧ Sub e1 f' ∧ K e1 m' := by
      intro hw h
      obtain ⟨env', hp, h⟩ := Nw_iff.1 h
      obtain ⟨f1, p1, p2⟩ := setD_put hs hp
      exact tail (i := 0) (v := .und) (b := false) (by unfold stepOp; rw [hw]; simp only [p1, Option.map_some]) p2 h
    unfold WOps at h
    split at h
    · rename_i hg
      exact on (by unfold wantV; rw [hg]) h
    · rename_i j want hg
      split at h
      · rename_i d hd
        obtain ⟨g, hgv, h⟩ := Nw_iff.1 h
        have hf := hs d g hgv
        unfold GOp at h
        have hwv : wantV ops f o = some (match g with | .bool b => b == want | _ => false) := by
          unfold wantV
          rw [hg]; simp only [hd, hf]
          cases g <;> rfl
        cases g with
        | bool b =>
          by_cases hb : b = want
          · exact on (by rw [hwv]; simp [hb]) (by simpa only [if_pos hb] using h)
          · exact off (by rw [hwv]; simp [hb]) (by simpa only [if_neg hb] using h)
        | _ => exact off hwv h
      · rename_i hd
        exact off (by unfold wantV; rw [hg]; simp only [hd]) h

/-! statements that leave their order open -/

abbrev WRec := Rec × Bool

def WTr (n : Nat) (ops : Array Oper) : List Oper → Env → Mem → List WRec → (Env → Mem → List WRec → Prop) → Prop
  | [], env, m, acc, K => K env m acc
  | o :: r, env, m, acc, K =>
    match o.guard with
    | none => W1 P E ov env m (fun v m' => Nw (setD n env o.dst v) fun env' => WTr n ops r env' m' ((⟨o, env, m, v, isEff P o.op⟩, true) :: acc) K) o.op
    | some (j, want) => match (ops[j]?).bind (·.dst) with
      | some d => Nw (env.get d) fun g => GSplit g want
          (W1 P E ov ((d, .bool want) :: env) m (fun v m' => Nw (setD n ((d, .bool want) :: env) o.dst v) fun env' => WTr n ops r env' m' ((⟨o, (d, .bool want) :: env, m, v, isEff P o.op⟩, true) :: acc) K) o.op)
          (Nw (setD n ((d, .bool (!want)) :: env) o.dst .und) fun env' => WTr n ops r env' m ((⟨o, (d, .bool (!want)) :: env, m, .und, false⟩, false) :: acc) K)
      | none => Nw (setD n env o.dst .und) fun env' => WTr n ops r env' m ((⟨o, env, m, .und, false⟩, false) :: acc) K

inductive TrW (ops : Array Oper) : List WRec → List Rec → Prop where
  | nil : TrW ops [] []
  | cons (r : Rec) (b : Bool) (s : Rec) (l : List WRec) (k : List Rec) (ho : r.o = s.o) (he : Sub r.env s.env) (hm : r.m = s.m) (hv : r.v = s.v) (hf : r.eff = s.eff) (hw : wantV ops s.env s.o = some b) (t : TrW ops l k) : TrW ops ((r, b) :: l) (s :: k)

theorem TrW.le {ops : Array Oper} : ∀ {l : List WRec} {k : List Rec}, TrW ops l k → TrLe (l.map (·.1)) k
  | _, _, .nil => .nil
  | _, _, .cons r b s l k ho he hm hv hf _ t => .cons r s _ _ ho he hm hv hf (TrW.le t)

theorem TrW.get {ops : Array Oper} : ∀ {l : List WRec} {k : List Rec}, TrW ops l k → ∀ {i : Nat} {s : Rec}, k[i]? = some s → ∃ r b, l[i]? = some (r, b) ∧ wantV ops s.env s.o = some b
  | _, _, .nil, i, s, h => by simp at h
  | _, _, .cons r b s' l k ho he hm hv hf hw t, 0, s, h => by simp at h; subst h; exact ⟨r, b, by simp, hw⟩
  | _, _, .cons r b s' l k ho he hm hv hf hw t, i + 1, s, h => by simp at h; obtain ⟨r', b', h1, h2⟩ := TrW.get t h; exact ⟨r', b', by simpa using h1, h2⟩

theorem WTr_sound {n : Nat} {ops : Array Oper} {K : Env → Mem → List WRec → Prop} : ∀ {l : List Oper} {env f : Env} {m : Mem} {acc : List WRec}, Sub env f → WTr P E ov n ops l env m acc K →
    ∃ i tr ef mf e1 trW, evTrace P E (evCall P E ov i) ops n l f m = some (tr, ef, mf) ∧ Sub e1 ef ∧ K e1 mf (trW.reverse ++ acc) ∧ TrW ops trW tr
  | [], env, f, m, acc, hs, h => ⟨0, [], f, m, env, [], rfl, hs, by unfold WTr at h; simpa using h, .nil⟩
  | o :: r, env, f, m, acc, hs, h => by
    have tail : ∀ {i : Nat} {v : V} {m1 : Mem} {b w : Bool} {env env' f1 : Env}, Sub env f → stepOp P E (evCall P E ov i) ops n f m o = some (v, f1, m1, b) → Sub env' f1 → wantV ops f o = some w → WTr P E ov n ops r env' m1 ((⟨o, env, m, v, b⟩, w) :: acc) K →
        ∃ i tr ef mf e1 trW, evTrace P E (evCall P E ov i) ops n (o :: r) f m = some (tr, ef, mf) ∧ Sub e1 ef ∧ K e1 mf (trW.reverse ++ acc) ∧ TrW ops trW tr := by
      intro i v m1 b w env env' f1 hs h1 h2 hw h3
      obtain ⟨j, tr, ef, mf, e2, trW, k1, k2, k3, k4⟩ := WTr_sound h2 h3
      obtain ⟨g1, q1, q2⟩ := stepOp_mono P E (evCall_mono P E ov (Nat.le_max_left i j)) (Sub.refl f) h1
      obtain ⟨tr', ef', r1, r2, r3⟩ := evTrace_mono P E (evCall_mono P E ov (Nat.le_max_right i j)) q2 k1
      refine ⟨max i j, ⟨o, f, m, v, b⟩ :: tr', ef', mf, e2, (⟨o, env, m, v, b⟩, w) :: trW, by unfold evTrace; rw [q1]; simp only [r1, Option.map_some], k2.trans r3, by simpa using k3, ?_⟩
      refine .cons _ _ _ _ _ rfl hs rfl rfl rfl hw ?_
      clear k3
      have comb : ∀ {l : List WRec} {k k' : List Rec}, TrW ops l k → TrLe k k' → TrW ops l k' := by
        intro l
        induction l with
        | nil => intro k k' h1 h2; cases h1; cases h2; exact .nil
        | cons p l ih =>
          intro k k' h1 h2
          cases h1 with
          | cons r b s l k ho he hm hv hf hw t => cases h2 with
            | cons _ s' _ k2 ho' he' hm' hv' hf' t' => exact .cons _ _ _ _ _ (ho.trans ho') (he.trans he') (hm.trans hm') (hv.trans hv') (hf.trans hf') (by rw [← ho']; exact wantV_mono he' hw) (ih t t')
      exact comb k4 r2
    have on : ∀ {env : Env}, Sub env f → wantV ops f o = some true → W1 P E ov env m (fun v m' => Nw (setD n env o.dst v) fun env' => WTr P E ov n ops r env' m' ((⟨o, env, m, v, isEff P o.op⟩, true) :: acc) K) o.op →
        ∃ i tr ef mf e1 trW, evTrace P E (evCall P E ov i) ops n (o :: r) f m = some (tr, ef, mf) ∧ Sub e1 ef ∧ K e1 mf (trW.reverse ++ acc) ∧ TrW ops trW tr := by
      intro env hs hw h
      obtain ⟨i, v, m1, hr, h⟩ := W1_sound P E ov hs h
      obtain ⟨env', hp, h⟩ := Nw_iff.1 h
      obtain ⟨f1, p1, p2⟩ := setD_put hs hp
      exact tail (i := i) (v := v) (env := env) (b := isEff P o.op) hs (by unfold stepOp; rw [hw]; simp only [hr, p1, Option.map_some]) p2 hw h
    have off : ∀ {env : Env}, Sub env f → wantV ops f o = some false → (Nw (setD n env o.dst .und) fun env' => WTr P E ov n ops r env' m ((⟨o, env, m, .und, false⟩, false) :: acc) K) →
        ∃ i tr ef mf e1 trW, evTrace P E (evCall P E ov i) ops n (o :: r) f m = some (tr, ef, mf) ∧ Sub e1 ef ∧ K e1 mf (trW.reverse ++ acc) ∧ TrW ops trW tr := by
      intro env hs hw h
      obtain ⟨env', hp, h⟩ := Nw_iff.1 h
      obtain ⟨f1, p1, p2⟩ := setD_put hs hp
      exact tail (i := 0) (v := .und) (env := env) (b := false) hs (by unfold stepOp; rw [hw]; simp only [p1, Option.map_some]) p2 hw h
    unfold WTr at h
    split at h
    · rename_i hg
      exact on hs (by unfold wantV; rw [hg]) h
    · rename_i j want hg
      split at h
      · rename_i d hd
        obtain ⟨g, hgv, h⟩ := Nw_iff.1 h
        have hf := hs d g hgv
        have hwv : wantV ops f o = some (match g with | .bool b => b == want | _ => false) := by
          unfold wantV
          rw [hg]; simp only [hd, hf]
          cases g <;> rfl
        unfold GSplit at h
        cases g with
        | bool b =>
          have hsub : ∀ c, b = c → Sub ((d, .bool c) :: env) f := by
            intro c hc t u ht
            simp only [Env.get] at ht
            split at ht
            · cases ht; subst_vars; exact hf
            · exact hs t u ht
          simp only at h
          split at h
          · rename_i hb _
            exact on (hsub want hb) (by rw [hwv]; simp [hb]) h
          · rename_i hb _
            exact off (hsub (!want) (by cases b <;> cases want <;> simp_all)) (by rw [hwv]; simp [hb]) h
        | _ => exact h.elim
      · rename_i hd
        exact off hs (by unfold wantV; rw [hg]; simp only [hd]) h

end

end Sim
