/-
  Lemmas of this claim's own: a statement that leaves its order open, whole. No condition.
-/
import Derived.Test.YtdmahionfllhnaaGreatDoorSim12
namespace Sim
open Go Go.MapKept

section
variable {P : Program} {E : EqT} {call : CallF} {ops : Array Oper} {n : Nat} {env : Env} {m : Mem} {tr : List Rec} {ef : Env} {mf : Mem}

def TrOk (P : Program) (E : EqT) (call : CallF) (ops : Array Oper) (n : Nat) (tr : List Rec) (ef : Env) (mf : Mem) : Prop :=
  ∀ i r, tr[i]? = some r → ops.toList[i]? = some r.o ∧ r.env = envAt tr ef i ∧ r.m = memAt tr mf i ∧ stepOp P E call ops n r.env r.m r.o = some (r.v, envAt tr ef (i + 1), memAt tr mf (i + 1), r.eff)

theorem step_put (h4 : TrOk P E call ops n tr ef mf) {i : Nat} {r : Rec} (hr : tr[i]? = some r) : putD n (envAt tr ef i) r.o.dst r.v = some (envAt tr ef (i + 1)) := by
  obtain ⟨_, q2, _, q4⟩ := h4 _ _ hr
  rw [q2] at q4
  unfold stepOp at q4
  split at q4
  · cases q4
  · obtain ⟨x, hx, q4⟩ := omap q4
    simp only [Prod.mk.injEq] at q4
    obtain ⟨r1, r2, _⟩ := q4
    rw [← r1, ← r2]; exact hx
  · split at q4
    · obtain ⟨x, hx, q4⟩ := omap q4
      simp only [Prod.mk.injEq] at q4
      obtain ⟨r1, r2, _⟩ := q4
      rw [← r1, ← r2]; exact hx
    · cases q4

theorem putD_get {n : Nat} {env env' : Env} {dst : Option Nat} {v : V} (h : putD n env dst v = some env') (t : Nat) : env'.get t = if dst = some t then some v else env.get t := by
  unfold putD at h
  split at h
  · rw [← Option.some.inj h, if_neg (by simp)]
  · rename_i d
    split at h
    · rw [← Option.some.inj h, Env.get_put]
      by_cases q : t = d
      · subst q; simp
      · rw [if_neg q, if_neg (by simp; exact fun k => q k.symm)]
    · cases h

theorem putD_lt {n : Nat} {env env' : Env} {d : Nat} {v : V} (h : putD n env (some d) v = some env') : d < n := by
  unfold putD at h
  simp only at h
  split at h
  · assumption
  · cases h

theorem envS_all (h0 : envAt tr ef 0 = env) (h4 : TrOk P E call ops n tr ef mf) {listed : Array Bool} {t : Nat} : ∀ i, i ≤ tr.length → (∀ j < i, lst listed j = true) → envS env tr (lst listed) i t = (envAt tr ef i).get t
  | 0, _, _ => by simp [envS, h0]
  | i + 1, hi, hl => by
    have ih := envS_all h0 h4 (listed := listed) (t := t) i (by omega) (fun j hj => hl j (by omega))
    have hr : tr[i]? = some tr[i] := List.getElem?_eq_getElem (by omega)
    simp only [envS, hr]
    rw [putD_get (step_put h4 hr) t, ih, hl i (by omega)]
    simp

theorem Mid.next (hst : stillOk ops = true) (hlen : tr.length = ops.size) (h4 : TrOk P E call ops n tr ef mf) {ρ0 : Rho} {w0 : World} {d : List Deferred} {listed : Array Bool} {p p' : Nat} {ρ ρ' : Rho} {a : Act} {w w' : World}
    (hmid : Mid ops n ρ0 env m w0 tr mf d listed p ρ a w) {i : Nat} {r : Rec} (hr : tr[i]? = some r) (hl : lst listed i = false) (hpred : ∀ e ∈ r.o.after.toList, Region.binds .any e = true → lst listed e.on = true)
    {x : Value} (hle : ρ.le ρ') (hn : Nxt ρ0 m w0 ρ' (memAt tr mf p') w') (hx : VR ρ' r.v x)
    (hpos : p' = 0 ∨ ∃ e ∈ effsOf tr, p' = e + 1 ∧ (e = i ∨ lst listed e = true)) (htop : ∀ e ∈ effsOf tr, (e = i ∨ lst listed e = true) → e < p')
    (hgaps : ∀ e ∈ effsOf tr, e < p' → e ≠ i → lst listed e = false → Gap m tr mf (memAt tr mf p') ρ' e) :
    Mid ops n ρ0 env m w0 tr mf d (listed.setIfInBounds i true) p' ρ' (a.put r.o.dst x) w' := by
  have hi : i < ops.size := by rw [← hlen]; exact (List.getElem?_eq_some_iff.1 hr).1
  have hil : i < listed.size := by rw [hmid.size]; exact hi
  have ho : ops[i]? = some r.o := by have := (h4 _ _ hr).1; simpa using this
  have hput := step_put h4 hr
  refine ⟨by simp [hmid.size], ?_, ?_, ?_, hn, ?_, ?_, ?_, (put_defers _ _ _).trans hmid.defers⟩
  · intro j o hj hlj e he hb
    rw [lst_set hil] at hlj ⊢
    split at hlj
    · rename_i q; subst q
      rw [ho] at hj; cases hj
      have := hpred e he hb
      rw [this]; simp
    · have := hmid.shut j o hj hlj e he hb
      rw [this]; simp
  · rcases hpos with h | ⟨e, he, h1, h2⟩
    · exact .inl h
    · refine .inr ⟨e, he, h1, ?_⟩
      rw [lst_set hil]
      rcases h2 with rfl | h2
      · simp
      · rw [h2]; simp
  · intro e he hle
    rw [lst_set hil] at hle
    split at hle
    · exact htop e he (.inl (by assumption))
    · exact htop e he (.inr hle)
  · intro e he hep hle
    rw [lst_set hil] at hle
    split at hle
    · cases hle
    · exact hgaps e he hep (by assumption) hle
  · cases hd : r.o.dst with
    | none => exact hmid.tsize
    | some d => simp [Act.put, hmid.tsize]
  · intro t v hv
    by_cases hd : r.o.dst = some t
    · have hval : ∀ k, k ≤ tr.length → i < k → envS env tr (lst (listed.setIfInBounds i true)) k t = some r.v := by
        intro k
        induction k with
        | zero => intro _ h; omega
        | succ k ih =>
          intro hk hik
          have hkr : tr[k]? = some tr[k] := List.getElem?_eq_getElem (by omega)
          simp only [envS, hkr]
          by_cases hki : k = i
          · subst hki
            rw [hr] at hkr; cases hkr
            rw [if_pos ⟨by rw [lst_set hil]; simp, hd⟩]
          · rw [if_neg]
            · exact ih (by omega) (by omega)
            · rintro ⟨q1, q2⟩
              rw [lst_set hil, if_neg hki] at q1
              have hko : ops[k]? = some tr[k].o := by have := (h4 _ _ hkr).1; simpa using this
              have hb := (stillOk_slot hst ho hko (.inr hd) q2 hki).2 (by omega)
              have := hmid.shut.bef hb q1
              rw [hl] at this; cases this
      rw [hval _ (by rw [hlen]; exact Nat.le_refl _) hi] at hv
      cases hv
      have hlt := hput; rw [hd] at hlt
      have hlt := putD_lt hlt
      refine ⟨x, ?_, hx⟩
      rw [hd]
      simp [Act.put, hmid.tsize, hlt]
    · have : envS env tr (lst (listed.setIfInBounds i true)) ops.size t = envS env tr (lst listed) ops.size t := by
        refine envS_congr fun k hk rk hrk hdk => ?_
        rw [lst_set hil]
        by_cases q : k = i
        · subst q; rw [hr] at hrk; cases hrk; exact absurd hdk hd
        · rw [if_neg q]
      rw [this] at hv
      obtain ⟨y, hy, hyr⟩ := hmid.slots t v hv
      refine ⟨y, ?_, hyr.mono hle⟩
      cases hdd : r.o.dst with
      | none => exact hy
      | some d =>
        have : d ≠ t := fun q => hd (by rw [hdd, q])
        simp only [Act.put, Array.getElem?_setIfInBounds]
        rw [if_neg this]; exact hy

theorem step_eff (h4 : TrOk P E call ops n tr ef mf) {i : Nat} {r : Rec} (hr : tr[i]? = some r) (hf : r.eff = true) : wantV ops r.env r.o = some true ∧ runOp P E call r.env r.m r.o.op = some (r.v, memAt tr mf (i + 1), true) := by
  obtain ⟨_, _, _, q4⟩ := h4 _ _ hr
  unfold stepOp at q4
  split at q4
  · cases q4
  · obtain ⟨x, _, q4⟩ := omap q4
    simp only [Prod.mk.injEq] at q4
    rw [hf] at q4; simp at q4
  · rename_i hw
    refine ⟨hw, ?_⟩
    split at q4
    · rename_i v' m' e' hrun
      obtain ⟨x, _, q4⟩ := omap q4
      simp only [Prod.mk.injEq] at q4
      obtain ⟨r1, _, r3, r4⟩ := q4
      rw [hrun, r1, r3, r4, hf]
    · cases q4

theorem step_still (h4 : TrOk P E call ops n tr ef mf) {i : Nat} (hi : i < tr.length) (hf : i ∉ effsOf tr) : memAt tr mf (i + 1) = memAt tr mf i :=
  mem_const h4 (p := i) 1 (by omega) (fun e h1 h2 => by have : e = i := by omega
                                                        subst this; exact hf)

theorem runE_new {env : Env} {m m' : Mem} {op : Op} {v : V} (hn : newOp op = true) (h : runOp P E call env m op = some (v, m', true)) : evE P env m op = some (.val v, m') := by
  unfold runOp at h
  split at h
  · cases h
  · split at h
    · rename_i hq; cases h; exact hq
    · rename_i hq
      obtain ⟨_, _, _, _, hh⟩ := evE_new hn hq
      cases hh
    · cases h

theorem runE_app {env : Env} {m m' : Mem} {op : Op} {v : V} (hn : appOp op = true) (h : runOp P E call env m op = some (v, m', true)) : evE P env m op = some (.val v, m') := by
  unfold runOp at h
  split at h
  · cases h
  · split at h
    · rename_i hq; cases h; exact hq
    · rename_i hq
      unfold appOp at hn
      split at hn
      · simp only [evE] at hq
        split at hq
        · obtain ⟨_, _, hq⟩ := obind hq
          obtain ⟨_, _, hq⟩ := obind hq
          obtain ⟨_, _, hq⟩ := omap hq
          cases hq
        · cases hq
      · cases hn
    · cases h

theorem newAt_iff {i : Nat} {r : Rec} (hr : tr[i]? = some r) : newAt tr i = newOp r.o.op := by unfold newAt; rw [hr]
theorem appAt_iff {i : Nat} {r : Rec} (hr : tr[i]? = some r) : appAt tr i = appOp r.o.op := by unfold appAt; rw [hr]

theorem step_new (h4 : TrOk P E call ops n tr ef mf) {i : Nat} (he : i ∈ effsOf tr) (hn : newAt tr i = true) : ∃ x tg, memAt tr mf (i + 1) = (memAt tr mf i).add x tg := by
  obtain ⟨r, hr, hf⟩ := eff_get he
  rw [newAt_iff hr] at hn
  obtain ⟨_, hrun⟩ := step_eff h4 hr hf
  obtain ⟨x, tg, v, h1, _⟩ := evE_new hn (runE_new hn hrun)
  rw [(h4 _ _ hr).2.2.1] at h1
  exact ⟨x, tg, h1⟩

theorem step_app (h4 : TrOk P E call ops n tr ef mf) {i : Nat} (he : i ∈ effsOf tr) (hn : appAt tr i = true) : (memAt tr mf i).size ≤ (memAt tr mf (i + 1)).size := by
  obtain ⟨r, hr, hf⟩ := eff_get he
  rw [appAt_iff hr] at hn
  obtain ⟨_, hrun⟩ := step_eff h4 hr hf
  have h := runE_app hn hrun
  rw [(h4 _ _ hr).2.2.1] at h
  unfold appOp at hn
  split at hn
  case h_2 => cases hn
  rename_i hop
  rw [hop] at h
  simp only [evE] at h
  split at h
  case h_2 => cases h
  obtain ⟨_, _, h⟩ := obind h
  obtain ⟨_, _, h⟩ := obind h
  obtain ⟨q, hq, h⟩ := omap h
  obtain ⟨q1, q2⟩ := q
  cases h
  exact (appendV_frame hq).1

theorem size_mono (h4 : TrOk P E call ops n tr ef mf) {e : Nat} : ∀ (d : Nat), e + d ≤ tr.length → (∀ x ∈ effsOf tr, e ≤ x → x < e + d → newAt tr x = true ∨ appAt tr x = true ∨ (memAt tr mf x).size ≤ (memAt tr mf (x + 1)).size) → (memAt tr mf e).size ≤ (memAt tr mf (e + d)).size
  | 0, _, _ => Nat.le_refl _
  | d + 1, hl, hx => by
    have ih := size_mono h4 (e := e) d (by omega) (fun x h1 h2 h3 => hx x h1 h2 (by omega))
    refine Nat.le_trans ih ?_
    show (memAt tr mf (e + d)).size ≤ (memAt tr mf (e + d + 1)).size
    by_cases hm : e + d ∈ effsOf tr
    · rcases hx _ hm (by omega) (by omega) with h | h | h
      · obtain ⟨x, tg, h⟩ := step_new h4 hm h
        rw [h, Mem.size_add]; omega
      · exact step_app h4 hm h
      · exact h
    · rw [step_still h4 (by omega) hm]; exact Nat.le_refl _

theorem Gap.keep {M M' : Mem} {ρ ρ' : Rho} {e : Nat} (h : Gap m tr mf M ρ e) (h1 : ρ' (memAt tr mf e).size = none) (h2 : M.size ≤ M'.size) (h3 : M'.get (memAt tr mf e).size = M.get (memAt tr mf e).size)
    (h4 : ∀ t ∈ M'.ty, t.b = (memAt tr mf e).size → t ∈ M.ty ∨ M.size ≤ t.b) : Gap m tr mf M' ρ' e :=
  ⟨h.new, h1, h.lo, Nat.lt_of_lt_of_le h.hi h2, h3.trans h.get, fun t ht hb => by
    rcases h4 t ht hb with h5 | h5
    · exact h.ty t h5 hb
    · have := h.hi; omega, h.old⟩

theorem Gap.add {M : Mem} {ρ : Rho} {e : Nat} (h : Gap m tr mf M ρ e) (x : Blk) (tg : Option (TypeId × Option Nat)) : Gap m tr mf (M.add x tg) ρ e :=
  h.keep h.out (by simp) (by rw [Mem.get_add, if_neg (Nat.ne_of_lt h.hi)]) (fun t ht _ => by
    rcases Mem.ty_add ht with h5 | ⟨_, _, _, rfl⟩
    · exact .inl h5
    · exact .inr (Nat.le_refl _))

theorem late_to (h4 : TrOk P E call ops n tr ef mf) {ρ0 ρ : Rho} {w0 w : World} {listed : Array Bool} {p : Nat} (hnx : Nxt ρ0 m w0 ρ (memAt tr mf p) w) (hg : ∀ e ∈ effsOf tr, e < p → lst listed e = false → Gap m tr mf (memAt tr mf p) ρ e) :
    ∀ (d : Nat), p + d ≤ tr.length → (∀ e ∈ effsOf tr, p ≤ e → e < p + d → newAt tr e = true) →
      Nxt ρ0 m w0 ρ (memAt tr mf (p + d)) w ∧ ∀ e ∈ effsOf tr, e < p + d → lst listed e = false → Gap m tr mf (memAt tr mf (p + d)) ρ e
  | 0, _, _ => ⟨hnx, hg⟩
  | d + 1, hl, hn => by
    obtain ⟨i1, i2⟩ := late_to h4 hnx hg d (by omega) (fun e h1 h2 h3 => hn e h1 h2 (by omega))
    show Nxt ρ0 m w0 ρ (memAt tr mf (p + d + 1)) w ∧ ∀ e ∈ effsOf tr, e < p + d + 1 → lst listed e = false → Gap m tr mf (memAt tr mf (p + d + 1)) ρ e
    by_cases hm : p + d ∈ effsOf tr
    · have hnew := hn _ hm (by omega) (by omega)
      obtain ⟨x, tg, hx⟩ := step_new h4 hm hnew
      rw [hx]
      refine ⟨i1.late x tg, fun e he hlt hl => ?_⟩
      by_cases q : e = p + d
      · subst q
        refine ⟨hnew, ?_, i1.msize, by simp, by rw [hx], fun t ht _ => by rw [hx]; exact ht, fun t ht => (i1.mr.ty t ht).1⟩
        cases hr : ρ (memAt tr mf (p + d)).size with
        | none => rfl
        | some f => have := i1.mr.dom hr; omega
      · exact (i2 e he (by omega) hl).add x tg
    · rw [step_still h4 (by omega) hm]
      refine ⟨i1, fun e he hlt hl => i2 e he ?_ hl⟩
      rcases Nat.lt_or_ge e (p + d) with h | h
      · exact h
      · have : e = p + d := by omega
        subst this; exact absurd he hm

theorem any_sound (hE : EqOk P E) (hcall : CallOk P call) (hst : stillOk ops = true) (hlen : tr.length = ops.size) (h0 : envAt tr ef 0 = env) (h4 : TrOk P E call ops n tr ef mf)
    (hord : ∀ e1 e2, e1 ∈ effsOf tr → e2 ∈ effsOf tr → e1 < e2 → BefR ops e1 e2 ∨ (newAt tr e1 = true ∧ (newAt tr e2 = true ∨ appAt tr e2 = true ∨ KeepP (memAt tr mf e2) (memAt tr mf (e2 + 1)) (memAt tr mf e1).size)))
    (hchk : ∀ i r, tr[i]? = some r → r.eff = false → readsMem r.o.op = true → wantV ops r.env r.o = some true → ∀ p, (p = 0 ∨ ∃ e ∈ effsOf tr, p = e + 1) →
      (∀ e ∈ effsOf tr, bef (Region.before ops) e i = true → e < p) → (∀ e ∈ effsOf tr, bef (Region.before ops) i e = true → p ≤ e ∨ newAt tr e = true) → (p = 0 ∨ bef (Region.before ops) i (p - 1) = false) → evQ P E r.env (memAt tr mf p) r.o.op = some r.v)
    {ρ0 : Rho} {w0 : World} {d : List Deferred} {Q : Exit → Act → World → Prop}
    (hQ : ∀ a' w' ρ', Nxt ρ0 m w0 ρ' mf w' → EnvR ρ' n ef a'.tmps → a'.defers = d → Q .normal a' w') :
    ∀ fuel (listed : Array Bool) (p : Nat) (ρ : Rho) (a : Act) (w : World), Mid ops n ρ0 env m w0 tr mf d listed p ρ a w → left listed ops.size = fuel → wpAny P .any ops Q fuel listed a w := by
  have hfin : ∀ (listed : Array Bool) (p : Nat) (ρ : Rho) (a : Act) (w : World), Mid ops n ρ0 env m w0 tr mf d listed p ρ a w → (∀ i, i < ops.size → lst listed i = true) → Q .normal a w := by
    intro listed p ρ a w hmid hall
    have hend : tr[ops.size]? = none := by rw [← hlen]; simp
    have hef : envAt tr ef ops.size = ef := by unfold envAt; rw [hend]
    have hmf : memAt tr mf ops.size = mf := by unfold memAt; rw [hend]
    have hple : p ≤ ops.size := by
      rcases hmid.pos with rfl | ⟨e, he, rfl, _⟩
      · omega
      · obtain ⟨r, hr, _⟩ := eff_get he
        have := (List.getElem?_eq_some_iff.1 hr).1
        omega
    have hmem : memAt tr mf p = mf := by
      have := mem_const h4 (p := p) (ops.size - p) (by omega) (fun e h1 h2 he => by
        obtain ⟨r, hr, _⟩ := eff_get he
        have hlt := (List.getElem?_eq_some_iff.1 hr).1
        have := hmid.top e he (hall e (by omega)); omega)
      rw [show p + (ops.size - p) = ops.size from by omega, hmf] at this
      exact this.symm
    have hnx := hmid.nxt
    rw [hmem] at hnx
    refine hQ a w ρ hnx ⟨hmid.tsize, fun t v hv => hmid.slots t v ?_⟩ hmid.defers
    rw [envS_all h0 h4 ops.size (by omega) hall, hef]
    exact hv
  intro fuel
  induction fuel with
  | zero =>
    intro listed p ρ a w hmid hleft
    have hall := left_zero hleft
    refine ⟨?_, hfin listed p ρ a w hmid hall⟩
    cases hrd : Region.ready .any ops listed with
    | nil => rfl
    | cons i l =>
      have := ready_mem hmid.size (i := i) (by rw [hrd]; simp)
      rw [hall i this.1] at this
      exact absurd this.2.1 (by simp)
  | succ fuel ih =>
    intro listed p ρ a w hmid hleft
    refine ⟨fun hrd => hfin listed p ρ a w hmid (all_listed hst hmid.size hrd), fun i hi => ?_⟩
    obtain ⟨hlt, hl, hpred⟩ := ready_mem hmid.size hi
    have hr : tr[i]? = some tr[i] := List.getElem?_eq_getElem (by omega)
    generalize tr[i] = r at hr
    obtain ⟨q1, q2, q3, q4⟩ := h4 _ _ hr
    have ho : ops[i]? = some r.o := by simpa using q1
    have hpred' := hpred r.o ho
    have hleft' : left (listed.setIfInBounds i true) ops.size = fuel := by
      have := left_set (listed := listed) (i := i) (by rw [hmid.size]; exact hlt) hl ops.size
      rw [if_pos hlt] at this
      omega
    have befl : ∀ e, BefR ops e i → lst listed e = true := fun e hb => by
      cases hb with
      | one _ o' e' ho' he' hb hj => rw [ho] at ho'; cases ho'; have := hpred' e' he' hb; rwa [hj] at this
      | step _ k o' e' h' ho' he' hb hj => rw [ho] at ho'; cases ho'; have := hpred' e' he' hb; rw [hj] at this; exact hmid.shut.bef h' this
    have aftl : ∀ e, BefR ops i e → lst listed e = false := fun e hb => by
      cases hq : lst listed e with
      | false => rfl
      | true => have := hmid.shut.bef hb hq; rw [hl] at this; cases this
    have hple : p ≤ tr.length := by
      rcases hmid.pos with rfl | ⟨e, he, rfl, _⟩
      · omega
      · obtain ⟨r, hr, _⟩ := eff_get he
        have := (List.getElem?_eq_some_iff.1 hr).1
        omega
    -- the operands hold what they held in the text's order
    have henv : EnvR ρ n (lim (looks ops r.o) r.env) a.tmps := by
      refine ⟨hmid.tsize, fun t v hv => ?_⟩
      rw [lim_get] at hv
      split at hv
      · rename_i ht
        refine hmid.slots t v ?_
        rw [slot_eq hst hlen h0 h4 hmid.shut ho hl hpred' ht ops.size (by omega), show min ops.size i = i from by omega, ← q2]
        exact hv
      · cases hv
    have hw : ∀ b, wantV ops r.env r.o = some b → Region.wanted r.o (yielded ops a.tmps) = b := fun b hb => wantV_rel henv (by rw [wantV_lim]; exact hb)
    have hop : ∀ x ∈ r.o.op.operands, evX (lim (looks ops r.o) r.env) x = evX r.env x := fun x hx => evX_lim fun t ht => by subst ht; exact mem_looks hx
    unfold wpOp
    rw [ho]
    simp only
    unfold stepOp at q4
    split at q4
    · cases q4
    · -- not wanted
      rename_i hwf
      obtain ⟨env', hp, q4⟩ := omap q4
      simp only [Prod.mk.injEq] at q4
      obtain ⟨r1, r2, r3, r4⟩ := q4
      rw [if_neg (by rw [hw _ hwf]; simp)]
      refine ih _ p ρ _ _ (hmid.next hst hlen h4 hr hl hpred' (Rho.le_refl _) hmid.nxt (by rw [← r1]; exact und_rel ρ) ?_ ?_ (fun e he hep _ hle => hmid.gaps e he hep hle)) hleft'
      · rcases hmid.pos with h | ⟨e, he, h1, h2⟩
        · exact .inl h
        · exact .inr ⟨e, he, h1, .inr h2⟩
      · rintro e he (rfl | h)
        · have := (eff_mem hr).1 he; rw [← r4] at this; cases this
        · exact hmid.top e he h
    · rename_i hwt
      rw [if_pos (hw _ hwt)]
      split at q4
      case h_2 => cases q4
      rename_i v' m' e' hrun
      obtain ⟨env', hp, q4⟩ := omap q4
      simp only [Prod.mk.injEq] at q4
      obtain ⟨r1, r2, r3, r4⟩ := q4
      subst r1
      by_cases heff : e' = true
      · -- an operation that writes
        subst heff
        have hie : i ∈ effsOf tr := (eff_mem hr).2 r4.symm
        by_cases hpi : p ≤ i
        · -- it comes behind all that was run
          have hun : ∀ e ∈ effsOf tr, p ≤ e → e < i → newAt tr e = true := by
            intro e he h1 h2
            rcases hord e i he hie h2 with hb | hb
            · have := hmid.top e he (befl e hb); omega
            · exact hb.1
          have hgap0 : ∀ e ∈ effsOf tr, e < i → lst listed e = false → (newAt tr i = true ∨ appAt tr i = true ∨ KeepP (memAt tr mf i) (memAt tr mf (i + 1)) (memAt tr mf e).size) := by
            intro e he h1 h2
            rcases hord e i he hie h1 with hb | hb
            · rw [befl e hb] at h2; cases h2
            · exact hb.2
          obtain ⟨hnx, hgp⟩ := late_to h4 (listed := listed) hmid.nxt hmid.gaps (i - p) (by omega) (fun e h1 h2 h3 => hun e h1 h2 (by omega))
          rw [show p + (i - p) = i from by omega] at hnx hgp
          have hmr := hnx.mr
          have hrun' : runOp P E call (lim (looks ops r.o) r.env) (memAt tr mf i) r.o.op = some (r.v, m', true) := by
            rw [runOp_congr P E call _ hop, ← q3]; exact hrun
          refine .inl (op_sound hE hcall hmr henv hrun' fun x ρ' w' hnx' hvx => ?_)
          have hle : ρ.le ρ' := hnx'.le hmr
          refine ih _ (i + 1) ρ' _ _ (hmid.next hst hlen h4 hr hl hpred' hle (by rw [← r3]; exact hnx.trans hnx') hvx ?_ ?_ ?_) hleft'
          · exact .inr ⟨i, hie, rfl, .inl rfl⟩
          · rintro e he (rfl | h)
            · omega
            · have := hmid.top e he h; omega
          · intro e he h1 h2 h3
            have hei : e < i := by omega
            have hG := hgp e he hei h3
            have hrho : ρ' (memAt tr mf e).size = none := by rw [hnx'.old _ hG.hi]; exact hG.out
            rcases hgap0 e he hei h3 with hn | hn | hn
            · obtain ⟨x, tg, hx⟩ := step_new h4 hie hn
              rw [hx]
              have := hG.add x tg
              exact ⟨this.new, hrho, this.lo, this.hi, this.get, this.ty, this.old⟩
            · rw [appAt_iff hr] at hn
              have hev := runE_app hn hrun'
              rw [r3] at hev
              obtain ⟨f1, f2, f3⟩ := appOp_frame henv hn hev
              exact hG.keep hrho f1 (f2 _ hG.hi hG.out) (fun t ht _ => f3 t ht)
            · exact hG.keep hrho hn.2.1 hn.1 (fun t ht hb => .inl (hn.2.2 t ht hb))
        · -- new memory that is made late
          have hpi' : i < p := by omega
          have hG := hmid.gaps i hie hpi' hl
          have hn := hG.new
          rw [newAt_iff hr] at hn
          have hrun' : runOp P E call (lim (looks ops r.o) r.env) (memAt tr mf i) r.o.op = some (r.v, memAt tr mf (i + 1), true) := by
            rw [runOp_congr P E call _ hop, ← q3, ← r3]; exact hrun
          obtain ⟨mk, x, tg, g1, g2, xv, w', e, ob, g3, g4, g5, g6, g7, g8⟩ := newOp_rel (P := P) (w := w) henv hn (runE_new hn hrun')
          have hget : (memAt tr mf p).get (memAt tr mf i).size = some x := by rw [hG.get, g2, Mem.get_add, if_pos rfl]
          obtain ⟨hle, hnx⟩ := hmid.nxt.fill hG.out hG.lo hget g4 g5 g6 (fun t ht hb w'' hh => by
            have h5 := hG.ty t ht hb
            rw [g2] at h5
            rcases Mem.ty_add h5 with h5 | ⟨el, sz, h6, rfl⟩
            · have := hG.old t h5; omega
            · exact g8 el sz h6 _ w'' hh)
          have hvx : VR (ρ.put (memAt tr mf i).size e) r.v xv := by rw [g1]; exact g7 _ _ (Rho.put_same _ _ _)
          have hwp : ∀ {K : Act → World → Prop}, K (a.put r.o.dst xv) w' → r.o.wp P a w K Q := by
            intro K hK
            unfold Oper.wp
            rcases g3 with h1 | ⟨h1, rfl⟩
            · rw [h1]; exact hK
            · rw [h1]; exact hK
          refine .inl (hwp ?_)
          have hlast : ∃ e0 ∈ effsOf tr, p = e0 + 1 ∧ lst listed e0 = true := by
            rcases hmid.pos with h | h
            · omega
            · exact h
          refine ih _ p _ _ _ (hmid.next hst hlen h4 hr hl hpred' hle hnx hvx ?_ ?_ ?_) hleft'
          · obtain ⟨e0, h1, h2, h3⟩ := hlast
            exact .inr ⟨e0, h1, h2, .inr h3⟩
          · rintro e0 he (rfl | h)
            · exact hpi'
            · exact hmid.top e0 he h
          · intro e0 he h1 h2 h3
            have hG0 := hmid.gaps e0 he h1 h3
            have between : ∀ a b, a ∈ effsOf tr → b ∈ effsOf tr → a < b → b < p → lst listed a = false → newAt tr a = true → (memAt tr mf a).size ≠ (memAt tr mf b).size := by
              intro a b ha hb hab hbp hla hna
              have hmono := size_mono h4 (e := a + 1) (b - (a + 1)) (by omega) (fun x hx h5 h6 => by
                rcases hord a x ha hx (by omega) with hbx | hbx
                · have hlx : lst listed x = false := by
                    cases hq : lst listed x with
                    | false => rfl
                    | true => have := hmid.shut.bef hbx hq; rw [hla] at this; cases this
                  exact .inl (hmid.gaps x hx (by omega) hlx).new
                · exact hbx.2.imp id fun h => h.imp id fun h => h.2.1)
              rw [show a + 1 + (b - (a + 1)) = b from by omega] at hmono
              obtain ⟨x, tg, hx⟩ := step_new h4 ha hna
              rw [hx, Mem.size_add] at hmono
              omega
            have hne : (memAt tr mf e0).size ≠ (memAt tr mf i).size := by
              rcases Nat.lt_or_gt_of_ne h2 with h | h
              · exact between e0 i he hie h hpi' h3 hG0.new
              · exact (between i e0 hie he h h1 hl hG.new).symm
            exact ⟨hG0.new, by rw [Rho.put_ne _ _ hne]; exact hG0.out, hG0.lo, hG0.hi, hG0.get, hG0.ty, hG0.old⟩
      · -- one that leaves memory as it is
        have heff' : e' = false := by cases e' <;> simp_all
        subst heff'
        have hrun2 : evQ P E r.env r.m r.o.op = some r.v ∧ m' = r.m := by
          unfold runOp at hrun
          split at hrun
          · rename_i v hv; cases hrun; exact ⟨hv, rfl⟩
          · split at hrun
            · cases hrun
            · obtain ⟨y, _, hrun⟩ := omap hrun; simp at hrun
            · cases hrun
        have hq : evQ P E r.env (memAt tr mf p) r.o.op = some r.v := by
          cases hrd : readsMem r.o.op with
          | false => rw [evQ_still P E r.env (memAt tr mf p) r.m hrd]; exact hrun2.1
          | true =>
            refine hchk i r hr r4.symm hrd hwt p ?_ ?_ ?_ ?_
            · rcases hmid.pos with h | ⟨e, he, h1, h2⟩
              · exact .inl h
              · exact .inr ⟨e, he, h1⟩
            · intro e he hb
              exact hmid.top e he (befl e (bef_spec ops i e hb))
            · intro e he hb
              have hel := aftl e (bef_spec ops e i hb)
              rcases Nat.lt_or_ge e p with h | h
              · exact .inr (hmid.gaps e he h hel).new
              · exact .inl h
            · rcases hmid.pos with h | ⟨e2, he2, h1, h2⟩
              · exact .inl h
              · right
                cases hq : bef (Region.before ops) i (p - 1) with
                | false => rfl
                | true =>
                  have := aftl _ (bef_spec ops (p - 1) i hq)
                  rw [h1] at this
                  simp only [Nat.add_sub_cancel] at this
                  rw [h2] at this; cases this
        have hrun' : runOp P E call (lim (looks ops r.o) r.env) (memAt tr mf p) r.o.op = some (r.v, memAt tr mf p, false) := by
          unfold runOp
          rw [evQ_congr P E _ hop, hq]
        have hmr := hmid.nxt.mr
        refine .inl (op_sound hE hcall hmr henv hrun' fun x ρ' w' hnx hvx => ?_)
        refine ih _ p ρ' _ _ (hmid.next hst hlen h4 hr hl hpred' (hnx.le hmr) (hmid.nxt.trans hnx) hvx ?_ ?_ ?_) hleft'
        · rcases hmid.pos with h | ⟨e, he, h1, h2⟩
          · exact .inl h
          · exact .inr ⟨e, he, h1, .inr h2⟩
        · rintro e he (rfl | h)
          · have := (eff_mem hr).1 he; rw [← r4] at this; cases this
          · exact hmid.top e he h
        · intro e he h1 _ h3
          have hG := hmid.gaps e he h1 h3
          exact ⟨hG.new, by rw [hnx.old _ hG.hi]; exact hG.out, hG.lo, hG.hi, hG.get, hG.ty, hG.old⟩

end

/-! the operations in another order -/

theorem wp_renum {P : Program} {Q : Exit → Act → World → Prop} {K : Act → World → Prop} {a : Act} {w : World} (L : List Nat) (o : Oper) : (renum L o).wp P a w K Q = o.wp P a w K Q := by
  obtain ⟨dst, op, ty, pos, after, guard⟩ := o
  rfl
theorem asks_renum {P : Program} {a : Act} {w : World} (L : List Nat) (o : Oper) : (renum L o).asks P a w = o.asks P a w := by
  obtain ⟨dst, op, ty, pos, after, guard⟩ := o
  rfl

structure PermR (n : Nat) (L : List Nat) : Prop where
  len : L.length = n
  inv : ∀ i, i < n → inv L i < n ∧ L[Sim.inv L i]? = some i
  back : ∀ k i, L[k]? = some i → i < n ∧ Sim.inv L i = k

theorem permOk_iff {n : Nat} {L : List Nat} (h : permOk n L = true) : PermR n L := by
  unfold permOk at h
  simp only [Bool.and_eq_true, List.all_eq_true, List.mem_range] at h
  obtain ⟨⟨h1, h2⟩, h3⟩ := h
  have hlen : L.length = n := by simpa using h1
  refine ⟨hlen, fun i hi => ?_, fun k i hk => ?_⟩
  · have : Sim.inv L i < n := by simpa [Nat.blt_eq] using h2 i hi
    refine ⟨this, ?_⟩
    have hlt : L.idxOf i < L.length := by rw [hlen]; exact this
    unfold Sim.inv
    rw [List.getElem?_eq_getElem hlt, List.getElem_idxOf hlt]
  · have hk' : k < n := by rw [← hlen]; exact (List.getElem?_eq_some_iff.1 hk).1
    have := h3 k hk'
    rw [List.getD_eq_getElem?_getD, hk] at this
    simpa [Nat.blt_eq] using this

theorem permA_get {ops : Array Oper} {L : List Nat} {k i : Nat} (h : L[k]? = some i) (hi : i < ops.size) : (permA ops L)[k]? = some (renum L ops[i]) := by
  unfold permA
  simp [h, Array.getD, hi]

theorem permA_size {ops : Array Oper} {L : List Nat} (h : PermR ops.size L) : (permA ops L).size = ops.size := by
  unfold permA; simp [h.len]

theorem permA_none {ops : Array Oper} {L : List Nat} {j : Nat} (hj : ops.size ≤ j) (h : PermR ops.size L) : (permA ops L)[inv L j]? = none := by
  have : inv L j = ops.size := by
    unfold inv
    rw [List.idxOf_eq_length, h.len]
    intro hm
    obtain ⟨k, hk⟩ := List.mem_iff_getElem?.1 hm
    have := (h.back k j hk).1
    omega
  rw [this, Array.getElem?_eq_none]
  rw [permA_size h]; exact Nat.le_refl _

theorem wanted_renum {ops : Array Oper} {L : List Nat} (h : PermR ops.size L) (o : Oper) (tmps : Array Value) : Region.wanted (renum L o) (yielded (permA ops L) tmps) = Region.wanted o (yielded ops tmps) := by
  obtain ⟨dst, op, ty, pos, after, guard⟩ := o
  unfold Region.wanted renum
  cases guard with
  | none => rfl
  | some p =>
    obtain ⟨j, b⟩ := p
    simp only [Option.map_some]
    have : yielded (permA ops L) tmps (inv L j) = yielded ops tmps j := by
      unfold yielded
      rcases Nat.lt_or_ge j ops.size with hj | hj
      · obtain ⟨_, h1⟩ := h.inv j hj
        rw [permA_get h1 hj, Array.getElem?_eq_getElem hj]
        rfl
      · rw [permA_none hj h, Array.getElem?_eq_none hj]
    rw [this]

theorem wpAny_perm {P : Program} {ops : Array Oper} {Q : Exit → Act → World → Prop} {L : List Nat} (h : PermR ops.size L) : ∀ (fuel : Nat) (listed listed' : Array Bool) (a : Act) (w : World), listed.size = ops.size → listed'.size = ops.size →
    (∀ k i, L[k]? = some i → lst listed' k = lst listed i) → wpAny P .any (permA ops L) Q fuel listed' a w → wpAny P .any ops Q fuel listed a w := by
  have hsz := permA_size h
  have oob : ∀ (l : Array Bool) (j : Nat), l.size = ops.size → ops.size ≤ j → lst l j = false := fun l j h1 h2 => by
    unfold lst
    rw [Array.getD_eq_getD_getElem?, Array.getElem?_eq_none (by omega)]; rfl
  have invo : ∀ j, ops.size ≤ j → ops.size ≤ inv L j := fun j hj => by
    rcases Nat.lt_or_ge (inv L j) ops.size with h1 | h1
    · have := permA_none hj h
      rw [Array.getElem?_eq_getElem (by rw [hsz]; exact h1)] at this
      cases this
    · exact h1
  have lsteq : ∀ (listed listed' : Array Bool), listed.size = ops.size → listed'.size = ops.size → (∀ k i, L[k]? = some i → lst listed' k = lst listed i) → ∀ j, lst listed' (inv L j) = lst listed j := by
    intro listed listed' h1 h2 h3 j
    rcases Nat.lt_or_ge j ops.size with hj | hj
    · exact h3 _ _ (h.inv j hj).2
    · rw [oob listed j h1 hj, oob listed' _ h2 (invo j hj)]
  have rd : ∀ (listed listed' : Array Bool), listed.size = ops.size → listed'.size = ops.size → (∀ k i, L[k]? = some i → lst listed' k = lst listed i) →
      ∀ k i, L[k]? = some i → (i ∈ Region.ready .any ops listed ↔ k ∈ Region.ready .any (permA ops L) listed') := by
    intro listed listed' h1 h2 h3 k i hk
    have hi := (h.back k i hk).1
    have ho : ops[i]? = some ops[i] := Array.getElem?_eq_getElem hi
    have ho' := permA_get hk hi
    constructor
    · intro hm
      obtain ⟨_, q2, q3⟩ := ready_mem h1 hm
      refine ready_of (by rw [h2, hsz]) ho' (by rw [h3 k i hk]; exact q2) fun e he hb => ?_
      have : ∃ e0 ∈ ops[i].after.toList, e = { e0 with on := inv L e0.on } := by
        simp only [renum, Array.toList_map, List.mem_map] at he
        obtain ⟨e0, h5, h6⟩ := he
        exact ⟨e0, h5, h6.symm⟩
      obtain ⟨e0, h5, rfl⟩ := this
      rw [lsteq listed listed' h1 h2 h3]
      exact q3 _ ho e0 h5 hb
    · intro hm
      obtain ⟨_, q2, q3⟩ := ready_mem (by rw [h2, hsz]) hm
      refine ready_of h1 ho (by rw [← h3 k i hk]; exact q2) fun e he hb => ?_
      have := q3 _ ho' { e with on := inv L e.on } (by
        simp only [renum, Array.toList_map, List.mem_map]
        exact ⟨e, he, rfl⟩) hb
      rw [lsteq listed listed' h1 h2 h3] at this
      exact this
  have nil : ∀ (listed listed' : Array Bool), listed.size = ops.size → listed'.size = ops.size → (∀ k i, L[k]? = some i → lst listed' k = lst listed i) →
      Region.ready .any ops listed = [] → Region.ready .any (permA ops L) listed' = [] := by
    intro listed listed' h1 h2 h3 hn
    cases hr : Region.ready .any (permA ops L) listed' with
    | nil => rfl
    | cons k l =>
      have hm : k ∈ Region.ready .any (permA ops L) listed' := by rw [hr]; simp
      have hk := (ready_mem (by rw [h2, hsz]) hm).1
      rw [hsz, ← h.len] at hk
      have := (rd listed listed' h1 h2 h3 k L[k] (List.getElem?_eq_getElem hk)).2 hm
      rw [hn] at this; simp at this
  have nil' : ∀ (listed listed' : Array Bool), listed.size = ops.size → listed'.size = ops.size → (∀ k i, L[k]? = some i → lst listed' k = lst listed i) →
      Region.ready .any (permA ops L) listed' = [] → Region.ready .any ops listed = [] := by
    intro listed listed' h1 h2 h3 hn
    cases hr : Region.ready .any ops listed with
    | nil => rfl
    | cons i l =>
      have hm : i ∈ Region.ready .any ops listed := by rw [hr]; simp
      have hi := (ready_mem h1 hm).1
      have := (rd listed listed' h1 h2 h3 _ i (h.inv i hi).2).1 hm
      rw [hn] at this; simp at this
  intro fuel
  induction fuel with
  | zero =>
    intro listed listed' a w h1 h2 h3 hh
    exact ⟨nil' listed listed' h1 h2 h3 hh.1, hh.2⟩
  | succ fuel ih =>
    intro listed listed' a w h1 h2 h3 hh
    refine ⟨fun hn => hh.1 (nil listed listed' h1 h2 h3 hn), fun i hi => ?_⟩
    have hlt := (ready_mem h1 hi).1
    obtain ⟨k1, k2⟩ := h.inv i hlt
    have hop := hh.2 (inv L i) ((rd listed listed' h1 h2 h3 _ i k2).1 hi)
    have ho : ops[i]? = some ops[i] := Array.getElem?_eq_getElem hlt
    have ho' := permA_get k2 hlt
    have step : ∀ a w, wpAny P .any (permA ops L) Q fuel (listed'.setIfInBounds (inv L i) true) a w → wpAny P .any ops Q fuel (listed.setIfInBounds i true) a w := by
      intro a w hw
      refine ih _ _ a w (by simp [h1]) (by simp [h2]) (fun k j hk => ?_) hw
      rw [lst_set (by omega), lst_set (by omega)]
      by_cases q : k = inv L i
      · subst q
        rw [k2] at hk; cases hk
        simp
      · rw [if_neg q, if_neg, h3 k j hk]
        rintro rfl
        exact q (h.back k _ hk).2.symm
    unfold wpOp at hop ⊢
    rw [ho] 
    rw [ho'] at hop
    simp only [wanted_renum h, wp_renum, asks_renum] at hop ⊢
    split
    · rename_i hwt
      rw [if_pos hwt] at hop
      exact hop.imp (fun h => Oper.wp_mono step h) id
    · rename_i hwt
      rw [if_neg hwt] at hop
      exact step _ _ hop

theorem wpAny_arr {P : Program} {ops : Array Oper} {Q : Exit → Act → World → Prop} (h : arrOk ops = true) {fuel : Nat} {a : Act} {w : World}
    (hh : wpAny P .any (arr ops) Q fuel (Array.replicate (arr ops).size false) a w) : wpAny P .any ops Q fuel (Array.replicate ops.size false) a w := by
  unfold arr at hh
  unfold arrOk at h
  split at h
  · rename_i hn
    rw [hn] at hh; exact hh
  · rename_i hn
    rw [hn] at hh
    have hp := permOk_iff h
    simp only [permA_size hp] at hh
    refine wpAny_perm hp fuel _ _ a w (by simp) (by simp) (fun k i hk => ?_) hh
    have h0 : ∀ j, lst (Array.replicate ops.size false) j = false := fun j => by
      unfold lst
      simp only [Array.getD_eq_getD_getElem?, Array.getElem?_replicate]
      split <;> rfl
    rw [h0, h0]

theorem arr_size {ops : Array Oper} (h : arrOk ops = true) : (arr ops).size = ops.size := by
  unfold arr
  unfold arrOk at h
  split
  · rfl
  · rename_i hn
    rw [hn] at h
    exact permA_size (permOk_iff h)

theorem evDraw_sound {P : Program} {E : EqT} (hE : EqOk P E) {call : CallF} (hcall : CallOk P call) (hmix : P.follows .mixedOrders = true) {ops : Array Oper} {n : Nat} {Q : Exit → Act → World → Prop} {id : Nat}
    {ρ : Rho} {m m' : Mem} {w : World} {env env' : Env} {a : Act} (hm : MR ρ m w) (he : EnvR ρ n env a.tmps) (h : evDraw P E call ops n env m = some (env', m'))
    (hQ : ∀ a' w' ρ', Nxt ρ m w ρ' m' w' → EnvR ρ' n env' a'.tmps → a'.defers = a.defers → Q .normal a' w') : (Code.region id ops true).wp P Q a w := by
  unfold evDraw at h
  split at h
  case h_2 => cases h
  rename_i tr ef mf htr
  split at h
  case isFalse => cases h
  rename_i hd
  cases h
  rw [Bool.and_eq_true] at hd
  obtain ⟨ha, hd⟩ := hd
  have hasz := arr_size ha
  refine wp_region_any hmix (wpAny_arr ha ?_)
  rw [← hasz]
  generalize arr ops = ops at htr hd hasz ⊢
  clear hasz ha
  obtain ⟨h1, h2, h3, h4⟩ := evTrace_ok htr
  obtain ⟨d1, d2, d3⟩ := drawOk_parts hd
  have hsz : (Array.replicate ops.size false).size = ops.size := by simp
  have hlst : ∀ i, lst (Array.replicate ops.size false) i = false := fun i => by
    unfold lst
    simp only [Array.getD_eq_getD_getElem?, Array.getElem?_replicate]
    split <;> rfl
  have hleft : ∀ k, left (Array.replicate ops.size false) k = k := fun k => by
    induction k with
    | zero => rfl
    | succ k ih => simp [left, hlst, ih]
  have hd0 := Nxt.drew hm
  refine any_sound hE hcall d1 (by rw [h1]; simp) h2 h4 d2 d3 (d := a.defers) hQ ops.size (Array.replicate ops.size false) 0 ρ a w.drew ⟨hsz, ?_, .inl rfl, ?_, by rw [h3]; exact hd0, fun e _ h => by omega, he.1, ?_, rfl⟩ (hleft _)
  · intro i o _ hl; rw [hlst] at hl; cases hl
  · intro e _ hl; rw [hlst] at hl; cases hl
  · intro t v hv
    refine he.2 t v ?_
    have : ∀ k, envS env tr (lst (Array.replicate ops.size false)) k t = env.get t := fun k => by
      induction k with
      | zero => rfl
      | succ k ih =>
        simp only [envS]
        split
        · rw [if_neg (by rw [hlst]; simp), ih]
        · exact ih
    rwa [this] at hv

end Sim
