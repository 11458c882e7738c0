/-
  Lemmas of this claim's own: a statement that leaves its order open. No condition.
-/
import Derived.Test.YtdmahionfllhnaaGreatDoorSim11
namespace Sim
open Go Go.MapKept

theorem evXs_congr {e f : Env} : ∀ {l : List Operand}, (∀ x ∈ l, evX e x = evX f x) → evXs e l = evXs f l
  | [], _ => rfl
  | o :: r, h => by
    simp only [evXs]
    rw [h o List.mem_cons_self, evXs_congr (fun x hx => h x (List.mem_cons_of_mem _ hx))]

theorem partsX_congr {e f : Env} : ∀ {l : List (Nat × Operand)}, (∀ p ∈ l, evX e p.2 = evX f p.2) → partsX e l = partsX f l
  | [], _ => rfl
  | (i, o) :: r, h => by
    simp only [partsX]
    rw [h (i, o) List.mem_cons_self, partsX_congr (fun x hx => h x (List.mem_cons_of_mem _ hx))]

theorem optX_congr {e f : Env} {o : Option Operand} (h : ∀ x, o = some x → evX e x = evX f x) : optX e o = optX f o := by
  cases o with
  | none => rfl
  | some x => simp only [optX, h x rfl]

theorem evQ_congr (P : Program) (E : EqT) {e f : Env} (m : Mem) {op : Op} (h : ∀ x ∈ op.operands, evX e x = evX f x) : evQ P E e m op = evQ P E f m op := by
  cases op with
  | move x => exact h x (by simp [Op.operands])
  | assign x => exact h x (by simp [Op.operands])
  | pick c a b => simp only [evQ]; rw [h c (by simp [Op.operands]), h a (by simp [Op.operands]), h b (by simp [Op.operands])]
  | load t a => simp only [evQ]; rw [h a (by simp [Op.operands])]
  | nilCheck x => simp only [evQ]; rw [h x (by simp [Op.operands])]
  | binOp op t x y k => simp only [evQ]; rw [h x (by simp [Op.operands]), h y (by simp [Op.operands])]
  | unOp op t x => simp only [evQ]; rw [h x (by simp [Op.operands])]
  | convert s d x => simp only [evQ]; rw [h x (by simp [Op.operands])]
  | makeFunc fn first captured =>
    cases fn with
    | func g =>
      simp only [evQ]
      rw [evXs_congr (l := first.toList) (fun x hx => h x (by simp [Op.operands]; left; simpa using hx)), evXs_congr (l := captured.toList) (fun x hx => h x (by simp [Op.operands]; right; simpa using hx))]
    | _ => rfl
  | makeInterface t x => simp only [evQ]; rw [h x (by simp [Op.operands])]
  | slice t x lo hi mx =>
    simp only [evQ]
    rw [h x (by simp [Op.operands]), optX_congr (o := lo) (fun y hy => h y (by subst hy; simp [Op.operands])), optX_congr (o := hi) (fun y hy => h y (by subst hy; simp [Op.operands])), optX_congr (o := mx) (fun y hy => h y (by subst hy; simp [Op.operands]))]
  | fieldAddr s x k => simp only [evQ]; rw [h x (by simp [Op.operands])]
  | field t x k => simp only [evQ]; rw [h x (by simp [Op.operands])]
  | indexAddr t x i => simp only [evQ]; rw [h x (by simp [Op.operands]), h i (by simp [Op.operands])]
  | index t x i => simp only [evQ]; rw [h x (by simp [Op.operands]), h i (by simp [Op.operands])]
  | lookup t x i ok => simp only [evQ]; rw [h x (by simp [Op.operands]), h i (by simp [Op.operands])]
  | extract x i => simp only [evQ]; rw [h x (by simp [Op.operands])]
  | build t ps =>
    simp only [evQ]
    rw [partsX_congr (l := ps.toList) (fun p hp => h p.2 (by simp [Op.operands]; exact ⟨p.1, by simpa using hp⟩))]
  | call c =>
    obtain ⟨callee, args, ts⟩ := c
    have ha : ∀ x ∈ args.toList, evX e x = evX f x := fun x hx => h x (by simp [Op.operands, Call.operands]; right; simpa using hx)
    cases callee with
    | builtin b =>
      cases b <;> try rfl
      · simp only [evQ]
        split
        · rename_i x t hargs hts
          rw [ha x (by rw [hargs]; simp)]
        · rfl
      · simp only [evQ]; rw [evXs_congr ha]
      · simp only [evQ]; rw [evXs_congr ha]
      · simp only [evQ]
        split
        · rename_i x hargs
          rw [ha x (by rw [hargs]; simp)]
        · rfl
    | _ => rfl
  | _ => rfl

theorem evE_congr (P : Program) {e f : Env} (m : Mem) {op : Op} (h : ∀ x ∈ op.operands, evX e x = evX f x) : evE P e m op = evE P f m op := by
  cases op with
  | alloc t => rfl
  | box t x => simp only [evE]; rw [h x (by simp [Op.operands])]
  | buildSlice t n ps =>
    simp only [evE]
    rw [partsX_congr (l := ps.toList) (fun p hp => h p.2 (by simp [Op.operands]; exact ⟨p.1, by simpa using hp⟩))]
  | makeSlice t l c => simp only [evE]; rw [h l (by simp [Op.operands]), h c (by simp [Op.operands])]
  | makeMap t r => cases r <;> rfl
  | store t p x => simp only [evE]; rw [h p (by simp [Op.operands]), h x (by simp [Op.operands])]
  | mapUpdate t x k y => simp only [evE]; rw [h x (by simp [Op.operands]), h k (by simp [Op.operands]), h y (by simp [Op.operands])]
  | insert t x k y => simp only [evE]; rw [h x (by simp [Op.operands]), h k (by simp [Op.operands]), h y (by simp [Op.operands])]
  | convert s d x => simp only [evE]; rw [h x (by simp [Op.operands])]
  | call c =>
    obtain ⟨callee, args, ts⟩ := c
    have ha : ∀ x ∈ args.toList, evX e x = evX f x := fun x hx => h x (by simp [Op.operands, Call.operands]; right; simpa using hx)
    cases callee with
    | builtin b =>
      cases b <;> try rfl
      all_goals
        simp only [evE]
        split
        · rename_i x y t u hargs hts
          rw [ha x (by rw [hargs]; simp), ha y (by rw [hargs]; simp)]
        · rfl
    | value g => simp only [evE]; rw [h g (by simp [Op.operands, Call.operands]), evXs_congr ha]
    | _ => rfl
  | _ => rfl

theorem runOp_congr (P : Program) (E : EqT) (call : CallF) {e f : Env} (m : Mem) {op : Op} (h : ∀ x ∈ op.operands, evX e x = evX f x) : runOp P E call e m op = runOp P E call f m op := by
  unfold runOp
  rw [evQ_congr P E m h, evE_congr P m h]

/-- An environment cut down to some slots. -/
def lim (L : List Nat) (env : Env) : Env := env.filter fun p => L.contains p.1

theorem lim_get (L : List Nat) (env : Env) (t : Nat) : (lim L env).get t = if t ∈ L then env.get t else none := by
  induction env with
  | nil => simp [lim, Env.get]
  | cons p r ih =>
    obtain ⟨k, v⟩ := p
    unfold lim at ih ⊢
    by_cases hk : k ∈ L
    · rw [List.filter_cons_of_pos (by simpa using hk)]
      simp only [Env.get]
      by_cases h : k = t
      · subst h; simp [hk]
      · rw [if_neg h, if_neg h, ih]
    · rw [List.filter_cons_of_neg (by simpa using hk), ih]
      simp only [Env.get]
      by_cases h : k = t
      · subst h; simp [hk]
      · rw [if_neg h]

theorem evX_lim {L : List Nat} {env : Env} {x : Operand} (h : ∀ t, x = .tmp t → t ∈ L) : evX (lim L env) x = evX env x := by
  cases x with
  | tmp t => simp only [evX, lim_get, if_pos (h t rfl)]
  | _ => rfl

theorem mem_looks {ops : Array Oper} {o : Oper} {t : Nat} (h : Operand.tmp t ∈ o.op.operands) : t ∈ looks ops o := by
  unfold looks
  exact List.mem_append_left _ (List.mem_filterMap.2 ⟨.tmp t, by simpa using h, rfl⟩)

theorem wantV_lim {ops : Array Oper} {o : Oper} {env : Env} : wantV ops (lim (looks ops o) env) o = wantV ops env o := by
  unfold wantV
  split
  · rfl
  · rename_i j want hg
    split
    · rename_i d hd
      have : d ∈ looks ops o := by
        unfold looks
        rw [hg]
        exact List.mem_append_right _ (by simp only [hd, Option.toList_some, List.mem_singleton])
      rw [lim_get, if_pos this]
    · rfl

/-! the slots, when some of the operations have been run -/

def envS (env : Env) (tr : List Rec) (S : Nat → Bool) : Nat → Nat → Option V
  | 0, t => env.get t
  | i + 1, t => match tr[i]? with
    | some r => if S i = true ∧ r.o.dst = some t then some r.v else envS env tr S i t
    | none => envS env tr S i t

theorem envS_congr {env : Env} {tr : List Rec} {S S' : Nat → Bool} {t : Nat} : ∀ {n : Nat}, (∀ i < n, ∀ r, tr[i]? = some r → r.o.dst = some t → S i = S' i) → envS env tr S n t = envS env tr S' n t
  | 0, _ => rfl
  | n + 1, h => by
    have ih := envS_congr (env := env) (n := n) (fun i hi r hr hd => h i (by omega) r hr hd)
    simp only [envS]
    split
    · rename_i r hr
      by_cases hd : r.o.dst = some t
      · rw [h n (by omega) r hr hd, ih]
      · rw [if_neg (fun q => hd q.2), if_neg (fun q => hd q.2), ih]
    · exact ih

def lst (listed : Array Bool) (i : Nat) : Bool := listed.getD i false

theorem lst_set {listed : Array Bool} {i : Nat} (hi : i < listed.size) (j : Nat) : lst (listed.setIfInBounds i true) j = if j = i then true else lst listed j := by
  unfold lst
  simp only [Array.getD_eq_getD_getElem?, Array.getElem?_setIfInBounds]
  by_cases h : i = j
  · subst h; simp [hi]
  · rw [if_neg h, if_neg (Ne.symm h)]

theorem ready_mem {ops : Array Oper} {listed : Array Bool} (hs : listed.size = ops.size) {i : Nat} (h : i ∈ Region.ready .any ops listed) :
    i < ops.size ∧ lst listed i = false ∧ ∀ o, ops[i]? = some o → ∀ e ∈ o.after.toList, Region.binds .any e = true → lst listed e.on = true := by
  unfold Region.ready at h
  rw [List.mem_filter] at h
  obtain ⟨h1, h2⟩ := h
  have hi : i < ops.size := by simpa using h1
  simp only [Bool.and_eq_true, Bool.not_eq_true'] at h2
  refine ⟨hi, ?_, fun o ho e he hb => ?_⟩
  · have := h2.1
    unfold lst
    simp only [Array.getD_eq_getD_getElem?] at this ⊢
    rw [Array.getElem?_eq_getElem (by omega)] at this ⊢
    exact this
  · have := h2.2
    rw [ho] at this
    simp only [Option.map_some, Option.getD_some, Array.all_eq_true'] at this
    have := this e (by simpa using he)
    simpa [hb, lst] using this

theorem ready_of {ops : Array Oper} {listed : Array Bool} (hs : listed.size = ops.size) {i : Nat} {o : Oper} (ho : ops[i]? = some o) (hl : lst listed i = false)
    (hp : ∀ e ∈ o.after.toList, Region.binds .any e = true → lst listed e.on = true) : i ∈ Region.ready .any ops listed := by
  have hi : i < ops.size := (Array.getElem?_eq_some_iff.1 ho).1
  unfold Region.ready
  rw [List.mem_filter]
  refine ⟨by simpa using hi, ?_⟩
  simp only [Bool.and_eq_true, Bool.not_eq_true']
  constructor
  · unfold lst at hl
    simp only [Array.getD_eq_getD_getElem?] at hl ⊢
    rw [Array.getElem?_eq_getElem (by omega)] at hl ⊢
    exact hl
  · rw [ho]
    simp only [Option.map_some, Option.getD_some, Array.all_eq_true']
    intro e he
    cases hb : Region.binds .any e with
    | false => rfl
    | true => have := hp e (by simpa using he) hb; simpa [lst] using this

theorem all_listed {ops : Array Oper} (hst : stillOk ops = true) {listed : Array Bool} (hs : listed.size = ops.size) (h : Region.ready .any ops listed = []) : ∀ i, i < ops.size → lst listed i = true := by
  intro i
  induction i using Nat.strongRecOn with
  | _ i ih =>
    intro hi
    cases hl : lst listed i with
    | true => rfl
    | false =>
      exfalso
      have ho : ops[i]? = some ops[i] := Array.getElem?_eq_getElem hi
      have := ready_of hs ho hl (fun e he hb => by
        have := stillOk_edge hst ho he hb
        exact ih e.on this (by omega))
      rw [h] at this
      simp at this

/-- How many are not listed yet. -/
def left (listed : Array Bool) : Nat → Nat
  | 0 => 0
  | n + 1 => left listed n + if lst listed n then 0 else 1

theorem left_set {listed : Array Bool} {i : Nat} (hi : i < listed.size) (hl : lst listed i = false) : ∀ n, left (listed.setIfInBounds i true) n + (if i < n then 1 else 0) = left listed n
  | 0 => by simp [left]
  | n + 1 => by
    have ih := left_set hi hl n
    simp only [left, lst_set hi]
    by_cases h : n = i
    · subst h
      rw [if_pos rfl, hl]
      simp at ih ⊢
      omega
    · rw [if_neg h]
      by_cases h2 : i < n
      · rw [if_pos h2] at ih
        have q : (if i < n + 1 then 1 else 0) = 1 := if_pos (by omega)
        rw [q]; omega
      · rw [if_neg h2] at ih
        have q : (if i < n + 1 then 1 else 0) = 0 := if_neg (by omega)
        rw [q]; omega

theorem left_zero {listed : Array Bool} : ∀ {n : Nat}, left listed n = 0 → ∀ i < n, lst listed i = true
  | 0, _, i, hi => by omega
  | n + 1, h, i, hi => by
    simp only [left] at h
    by_cases hin : i = n
    · subst hin
      cases hl : lst listed i with
      | true => rfl
      | false => rw [hl] at h; simp at h
    · exact left_zero (n := n) (by omega) i (by omega)

section
variable {P : Program} {E : EqT} {call : CallF} {ops : Array Oper} {n : Nat} {env : Env} {m : Mem} {tr : List Rec} {ef : Env} {mf : Mem}

theorem eff_mem {i : Nat} {r : Rec} (h : tr[i]? = some r) : i ∈ effsOf tr ↔ r.eff = true := by
  unfold effsOf
  rw [List.mem_map]
  constructor
  · rintro ⟨p, hp, rfl⟩
    rw [List.mem_filter] at hp
    have := List.mem_zipIdx_iff_getElem?.1 hp.1
    rw [h] at this
    cases this
    exact hp.2
  · intro he
    exact ⟨(r, i), List.mem_filter.2 ⟨List.mem_zipIdx_iff_getElem?.2 h, he⟩, rfl⟩

theorem eff_get {i : Nat} (h : i ∈ effsOf tr) : ∃ r, tr[i]? = some r ∧ r.eff = true := by
  unfold effsOf at h
  obtain ⟨p, hp, rfl⟩ := List.mem_map.1 h
  rw [List.mem_filter] at hp
  exact ⟨p.1, List.mem_zipIdx_iff_getElem?.1 hp.1, hp.2⟩

/-- Closed under what must come ahead. -/
def Shut (ops : Array Oper) (listed : Array Bool) : Prop := ∀ i o, ops[i]? = some o → lst listed i = true → ∀ e ∈ o.after.toList, Region.binds .any e = true → lst listed e.on = true

theorem Shut.bef {listed : Array Bool} (hs : Shut ops listed) {j i : Nat} (h : BefR ops j i) : lst listed i = true → lst listed j = true := by
  induction h with
  | one i o e ho he hb hj => intro hl; have := hs _ o ho hl e he hb; rwa [hj] at this
  | step k i o e _ ho he hb hj ih => intro hl; have := hs _ o ho hl e he hb; rw [hj] at this; exact ih this

theorem mem_const (h4 : ∀ i r, tr[i]? = some r → ops.toList[i]? = some r.o ∧ r.env = envAt tr ef i ∧ r.m = memAt tr mf i ∧ stepOp P E call ops n r.env r.m r.o = some (r.v, envAt tr ef (i + 1), memAt tr mf (i + 1), r.eff))
    {p : Nat} : ∀ (d : Nat), p + d ≤ tr.length → (∀ e, p ≤ e → e < p + d → e ∉ effsOf tr) → memAt tr mf (p + d) = memAt tr mf p
  | 0, _, _ => rfl
  | d + 1, hl, hn => by
    have ih := mem_const h4 d (by omega) (fun e h1 h2 => hn e h1 (by omega))
    have hlt : p + d < tr.length := by omega
    have hr : tr[p + d]? = some tr[p + d] := List.getElem?_eq_getElem hlt
    obtain ⟨_, _, q3, q4⟩ := h4 _ _ hr
    have hne : tr[p + d].eff = false := by
      cases hf : tr[p + d].eff with
      | false => rfl
      | true => exact absurd ((eff_mem hr).2 hf) (hn _ (by omega) (by omega))
    rw [hne] at q4
    unfold stepOp at q4
    rw [← ih, ← q3]
    show memAt tr mf (p + d + 1) = _
    split at q4
    · cases q4
    · obtain ⟨x, _, q4⟩ := omap q4
      simp only [Prod.mk.injEq] at q4
      exact q4.2.2.1.symm
    · split at q4
      · rename_i v' m' e' hrun
        obtain ⟨x, _, q4⟩ := omap q4
        simp only [Prod.mk.injEq] at q4
        obtain ⟨_, _, q5, q6⟩ := q4
        subst q6
        unfold runOp at hrun
        split at hrun
        · cases hrun; exact q5.symm
        · split at hrun
          · cases hrun
          · obtain ⟨y, _, hrun⟩ := omap hrun; cases hrun
          · cases hrun
      · cases q4

theorem drawOk_parts (h : drawOk P E ops tr mf = true) : stillOk ops = true ∧
    (∀ e1 e2, e1 ∈ effsOf tr → e2 ∈ effsOf tr → e1 < e2 → BefR ops e1 e2 ∨ (newAt tr e1 = true ∧ (newAt tr e2 = true ∨ appAt tr e2 = true ∨ KeepP (memAt tr mf e2) (memAt tr mf (e2 + 1)) (memAt tr mf e1).size))) ∧
    (∀ i r, tr[i]? = some r → r.eff = false → readsMem r.o.op = true → wantV ops r.env r.o = some true → ∀ p, (p = 0 ∨ ∃ e ∈ effsOf tr, p = e + 1) →
      (∀ e ∈ effsOf tr, bef (Region.before ops) e i = true → e < p) → (∀ e ∈ effsOf tr, bef (Region.before ops) i e = true → p ≤ e ∨ newAt tr e = true) → (p = 0 ∨ bef (Region.before ops) i (p - 1) = false) → evQ P E r.env (memAt tr mf p) r.o.op = some r.v) := by
  unfold drawOk at h
  simp only [Bool.and_eq_true, List.all_eq_true] at h
  obtain ⟨⟨h1, h2⟩, h3⟩ := h
  refine ⟨h1, fun e1 e2 q1 q2 hlt => ?_, fun i r hr hf hrd hw p hp c1 c2 c3 => ?_⟩
  · have := h2 e1 q1 e2 q2
    simp only [hlt, decide_true, Bool.not_true, Bool.false_or, Bool.or_eq_true, Bool.and_eq_true] at this
    rcases this with this | this
    · exact .inl (bef_spec ops e2 e1 this)
    · refine .inr ⟨this.1, ?_⟩
      rcases this.2 with (h | h) | h
      · exact .inl h
      · exact .inr (.inl h)
      · exact .inr (.inr (keepQ_iff h))
  · have hm : (r, i) ∈ tr.zipIdx := by rw [List.mk_mem_zipIdx_iff_getElem?]; exact hr
    have := h3 _ hm
    simp only [hf, hrd, hw, Bool.not_true, Bool.false_or] at this
    rw [List.all_eq_true] at this
    have := this p (by
      rcases hp with rfl | ⟨e, he, rfl⟩
      · simp
      · simp; exact he)
    have k1 : (effsOf tr).all (fun e => !bef (Region.before ops) e i || decide (e < p)) = true := by
      rw [List.all_eq_true]; intro e he
      cases hb : bef (Region.before ops) e i with
      | false => rfl
      | true => simpa using c1 e he hb
    have k2 : (effsOf tr).all (fun e => !bef (Region.before ops) i e || decide (p ≤ e) || newAt tr e) = true := by
      rw [List.all_eq_true]; intro e he
      cases hb : bef (Region.before ops) i e with
      | false => rfl
      | true => simpa using c2 e he hb
    have k3 : (decide (p = 0) || !bef (Region.before ops) i (p - 1)) = true := by
      rcases c3 with h | h
      · simp [h]
      · rw [h]; simp
    rw [k1, k2, k3] at this
    simp only [Bool.and_self, Bool.not_true, Bool.false_or] at this
    split at this
    · rename_i v hv
      rw [hv, V.beq_eq _ _ this]
    · cases this

/-- A place of new memory that the world does not have yet. -/
structure Gap (m : Mem) (tr : List Rec) (mf M : Mem) (ρ : Rho) (e : Nat) : Prop where
  new : newAt tr e = true
  out : ρ (memAt tr mf e).size = none
  lo : m.size ≤ (memAt tr mf e).size
  hi : (memAt tr mf e).size < M.size
  get : M.get (memAt tr mf e).size = (memAt tr mf (e + 1)).get (memAt tr mf e).size
  ty : ∀ t ∈ M.ty, t.b = (memAt tr mf e).size → t ∈ (memAt tr mf (e + 1)).ty
  old : ∀ t ∈ (memAt tr mf e).ty, t.b < (memAt tr mf e).size

/-- The relation between the run in the text's order and the one that the model took so far. -/
structure Mid (ops : Array Oper) (n : Nat) (ρ0 : Rho) (env : Env) (m : Mem) (w0 : World) (tr : List Rec) (mf : Mem) (d : List Deferred) (listed : Array Bool) (p : Nat) (ρ : Rho) (a : Act) (w : World) : Prop where
  size : listed.size = ops.size
  shut : Shut ops listed
  pos : p = 0 ∨ ∃ e ∈ effsOf tr, p = e + 1 ∧ lst listed e = true
  top : ∀ e ∈ effsOf tr, lst listed e = true → e < p
  nxt : Nxt ρ0 m w0 ρ (memAt tr mf p) w
  gaps : ∀ e ∈ effsOf tr, e < p → lst listed e = false → Gap m tr mf (memAt tr mf p) ρ e
  tsize : a.tmps.size = n
  slots : ∀ t v, envS env tr (lst listed) ops.size t = some v → ∃ x, a.tmps[t]? = some x ∧ VR ρ v x
  defers : a.defers = d

/-- What a slot held when the text came to an operation: the same as it holds now. -/
theorem slot_eq (hst : stillOk ops = true) (hlen : tr.length = ops.size) (h0 : envAt tr ef 0 = env)
    (h4 : ∀ i r, tr[i]? = some r → ops.toList[i]? = some r.o ∧ r.env = envAt tr ef i ∧ r.m = memAt tr mf i ∧ stepOp P E call ops n r.env r.m r.o = some (r.v, envAt tr ef (i + 1), memAt tr mf (i + 1), r.eff))
    {listed : Array Bool} (hshut : Shut ops listed) {j : Nat} {o : Oper} (ho : ops[j]? = some o) (hl : lst listed j = false) (hpred : ∀ e ∈ o.after.toList, Region.binds .any e = true → lst listed e.on = true)
    {t : Nat} (ht : t ∈ looks ops o) : ∀ i, i ≤ tr.length → envS env tr (lst listed) i t = (envAt tr ef (min i j)).get t := by
  have hbefj : ∀ i, BefR ops i j → lst listed i = true := fun i h => by
    cases h with
    | one _ o' e ho' he hb hj => rw [ho] at ho'; cases ho'; have := hpred e he hb; rwa [hj] at this
    | step _ k o' e h' ho' he hb hj => rw [ho] at ho'; cases ho'; have := hpred e he hb; rw [hj] at this; exact hshut.bef h' this
  intro i
  induction i with
  | zero => intro _; simp [envS, h0]
  | succ i ih =>
    intro hi
    have ih := ih (by omega)
    have hlt : i < tr.length := by omega
    have hr : tr[i]? = some tr[i] := List.getElem?_eq_getElem hlt
    obtain ⟨q1, q2, q3, q4⟩ := h4 _ _ hr
    have q1' : ops[i]? = some tr[i].o := by simpa using q1
    have hput : (envAt tr ef (i + 1)).get t = if tr[i].o.dst = some t then some tr[i].v else (envAt tr ef i).get t := by
      have hp : putD n (envAt tr ef i) tr[i].o.dst tr[i].v = some (envAt tr ef (i + 1)) := by
        rw [q2] at q4
        unfold stepOp at q4
        split at q4
        · cases q4
        · obtain ⟨x, hx, q4⟩ := omap q4
          simp only [Prod.mk.injEq] at q4
          obtain ⟨r1, r2, _⟩ := q4
          rw [← r1, ← r2]; exact hx
        · split at q4
          · obtain ⟨x, hx, q4⟩ := omap q4
            simp only [Prod.mk.injEq] at q4
            obtain ⟨r1, r2, _⟩ := q4
            rw [← r1, ← r2]; exact hx
          · cases q4
      unfold putD at hp
      split at hp
      · rename_i hd
        rw [← Option.some.inj hp, if_neg (by rw [hd]; simp)]
      · rename_i d hd
        split at hp
        · rw [← Option.some.inj hp, Env.get_put, hd]
          by_cases h : t = d
          · subst h; simp
          · rw [if_neg h, if_neg (by simp; exact fun q => h q.symm)]
        · cases hp
    simp only [envS, hr]
    by_cases hij : i < j
    · rw [show min (i + 1) j = i + 1 from by omega, hput]
      rw [show min i j = i from by omega] at ih
      by_cases hd : tr[i].o.dst = some t
      · have hb := (stillOk_slot hst ho q1' (.inl ht) hd (by omega)).1 hij
        rw [if_pos ⟨hbefj i hb, hd⟩, if_pos hd]
      · rw [if_neg (fun q => hd q.2), if_neg hd, ih]
    · rw [show min (i + 1) j = min i j from by omega]
      rw [if_neg, ih]
      rintro ⟨hli, hd⟩
      by_cases he : i = j
      · subst he; rw [hl] at hli; cases hli
      · have hb := (stillOk_slot hst ho q1' (.inl ht) hd he).2 (by omega)
        have := hshut.bef hb hli
        rw [hl] at this; cases this

end

end Sim
