/-
  Lemmas of this claim's own: what is reckoned with less known, or in fewer rounds, is reckoned the same with more. No condition.
-/
import Derived.Test.YtdmahionfllhnaaGreatDoorSim14
namespace Sim
open Go Go.MapKept

/-- Less is known. -/
def Sub (e f : Env) : Prop := ∀ t v, e.get t = some v → f.get t = some v
theorem Sub.refl (e : Env) : Sub e e := fun _ _ h => h
theorem Sub.trans {e f g : Env} (h : Sub e f) (k : Sub f g) : Sub e g := fun t v q => k t v (h t v q)

theorem evX_mono {e f : Env} (h : Sub e f) {o : Operand} {v : V} (hv : evX e o = some v) : evX f o = some v := by
  cases o with
  | tmp t => exact h t v hv
  | _ => exact hv

theorem evXs_mono {e f : Env} (h : Sub e f) : ∀ {os : List Operand} {l : List V}, evXs e os = some l → evXs f os = some l
  | [], l, hl => hl
  | o :: r, l, hl => by
    simp only [evXs] at hl ⊢
    split at hl
    · rename_i v l' hv hl'
      rw [evX_mono h hv, evXs_mono h hl']; exact hl
    · cases hl

theorem partsX_mono {e f : Env} (h : Sub e f) : ∀ {os : List (Nat × Operand)} {l : List (Nat × V)}, partsX e os = some l → partsX f os = some l
  | [], l, hl => hl
  | (i, o) :: r, l, hl => by
    simp only [partsX] at hl ⊢
    split at hl
    · rename_i v l' hv hl'
      rw [evX_mono h hv, partsX_mono h hl']; exact hl
    · cases hl

theorem optX_mono {e f : Env} (h : Sub e f) {o : Option Operand} {i : Option Int} (hi : optX e o = some i) : optX f o = some i := by
  cases o with
  | none => exact hi
  | some x =>
    simp only [optX] at hi ⊢
    cases hx : evX e x with
    | none => rw [hx] at hi; cases hi
    | some v => rw [hx] at hi; rw [evX_mono h hx]; exact hi

theorem bind_mono {e f : Env} (h : Sub e f) {β : Type} {x : Operand} {F : V → Option β} {b : β} (hb : (evX e x).bind F = some b) : (evX f x).bind F = some b := by
  obtain ⟨v, hv, hb⟩ := obind hb
  rw [evX_mono h hv]; exact hb

theorem bind_mono' {α β : Type} {x y : Option α} (hxy : ∀ v, x = some v → y = some v) {F G : α → Option β} (hFG : ∀ v b, F v = some b → G v = some b) {b : β} (hb : x.bind F = some b) : y.bind G = some b := by
  obtain ⟨v, hv, hb⟩ := obind hb
  rw [hxy v hv]; exact hFG v b hb

theorem map_mono' {α β : Type} {x y : Option α} (hxy : ∀ v, x = some v → y = some v) {F : α → β} {b : β} (hb : x.map F = some b) : y.map F = some b := by
  obtain ⟨v, hv, hb⟩ := omap hb
  rw [hxy v hv]; exact congrArg some hb

theorem evQ_mono (P : Program) (E : EqT) {e f : Env} (h : Sub e f) (m : Mem) {op : Op} {v : V} (hv : evQ P E e m op = some v) : evQ P E f m op = some v := by
  have X : ∀ x v, evX e x = some v → evX f x = some v := fun x v hx => evX_mono h hx
  cases op with
  | move x => exact X _ _ hv
  | assign x => exact X _ _ hv
  | pick c a b =>
    simp only [evQ] at hv ⊢
    cases hc : evX e c with
    | none => rw [hc] at hv; cases hv
    | some u =>
      rw [hc] at hv
      rw [X _ _ hc]
      cases u with
      | bool t => cases t <;> exact X _ _ hv
      | _ => cases hv
  | load t a => exact bind_mono h hv
  | nilCheck x => exact bind_mono h hv
  | binOp op t x y k => exact bind_mono' (X x) (fun u b hb => bind_mono h hb) hv
  | unOp op t x => exact bind_mono h hv
  | convert s d x => exact bind_mono h hv
  | makeFunc fn first captured =>
    cases fn with
    | func g => exact bind_mono' (fun v hv => evXs_mono h hv) (fun u b hb => map_mono' (fun v hv => evXs_mono h hv) hb) hv
    | _ => exact hv
  | makeInterface t x =>
    simp only [evQ] at hv ⊢
    split at hv
    · cases hv
    · exact map_mono' (X x) hv
    · cases hv
  | slice t x lo hi mx =>
    exact bind_mono' (X x) (fun u b hb => bind_mono' (fun i hi => optX_mono h hi) (fun u b hb => bind_mono' (fun i hi => optX_mono h hi) (fun u b hb => bind_mono' (fun i hi => optX_mono h hi) (fun u b hb => hb) hb) hb) hb) hv
  | fieldAddr s x k => exact bind_mono h hv
  | field t x k => exact bind_mono h hv
  | indexAddr t x i => exact bind_mono' (X x) (fun u b hb => bind_mono h hb) hv
  | index t x i => exact bind_mono' (X x) (fun u b hb => bind_mono h hb) hv
  | lookup t x i ok => exact bind_mono' (X x) (fun u b hb => bind_mono h hb) hv
  | extract x i => exact bind_mono h hv
  | build t ps => exact bind_mono' (fun v hv => partsX_mono h hv) (fun u b hb => hb) hv
  | call c =>
    obtain ⟨callee, args, ts⟩ := c
    cases callee with
    | builtin b =>
      cases b <;> try exact hv
      · simp only [evQ] at hv ⊢
        split at hv
        · exact bind_mono h hv
        · cases hv
      · exact bind_mono' (fun v hv => evXs_mono h hv) (fun u b hb => hb) hv
      · exact bind_mono' (fun v hv => evXs_mono h hv) (fun u b hb => hb) hv
      · simp only [evQ] at hv ⊢
        split at hv
        · exact bind_mono h hv
        · cases hv
    | _ => exact hv
  | _ => exact hv

/-- Is it one of the operations that leave memory as it is? By its kind alone. -/
theorem evE_mono (P : Program) {e f : Env} (h : Sub e f) (m : Mem) {op : Op} {r : OR × Mem} (hv : evE P e m op = some r) : evE P f m op = some r := by
  have X : ∀ x v, evX e x = some v → evX f x = some v := fun x v hx => evX_mono h hx
  cases op with
  | alloc t => exact hv
  | box t x => exact map_mono' (X x) hv
  | buildSlice t n ps => exact bind_mono' (fun v hv => partsX_mono h hv) (fun u b hb => hb) hv
  | makeSlice t l c => exact bind_mono' (X l) (fun u b hb => bind_mono h hb) hv
  | makeMap t r => cases r <;> exact hv
  | store t p x => exact bind_mono' (X p) (fun u b hb => bind_mono h hb) hv
  | mapUpdate t x k y => exact bind_mono' (X x) (fun u b hb => bind_mono' (X k) (fun u b hb => bind_mono h hb) hb) hv
  | insert t x k y => exact bind_mono' (X x) (fun u b hb => bind_mono' (X k) (fun u b hb => bind_mono h hb) hb) hv
  | convert s d x => exact bind_mono h hv
  | call c =>
    obtain ⟨callee, args, ts⟩ := c
    cases callee with
    | builtin b =>
      cases b <;> try exact hv
      all_goals
        simp only [evE] at hv ⊢
        split at hv
        · exact bind_mono' (X _) (fun u b hb => bind_mono h hb) hv
        · cases hv
    | value g =>
      simp only [evE] at hv ⊢
      split at hv
      · rename_i gg first cap l hg hl
        rw [X _ _ hg, evXs_mono h hl]; exact hv
      · cases hv
    | _ => exact hv
  | _ => exact hv

/-- The two kinds of operations have none in common, but '[]byte(s)' and its like, and there one alone answers. -/
theorem evQ_evE (P : Program) (E : EqT) {e f : Env} (h : Sub e f) (m : Mem) {op : Op} {r : OR × Mem} (hq : evQ P E e m op = none) (hv : evE P e m op = some r) : evQ P E f m op = none := by
  cases op with
  | convert s d x =>
    simp only [evE] at hv
    obtain ⟨v, hx, hv⟩ := obind hv
    simp only [evQ] at hq ⊢
    rw [hx] at hq
    rw [evX_mono h hx]; exact hq
  | call c =>
    obtain ⟨callee, args, ts⟩ := c
    cases callee with
    | builtin b => cases b <;> first | rfl | (simp [evE] at hv)
    | _ => rfl
  | makeFunc fn _ _ => cases fn <;> first | rfl | (simp [evE] at hv)
  | _ => first | rfl | (simp [evE] at hv; done)

def CallLe (c d : CallF) : Prop := ∀ g a m r, c g a m = some r → d g a m = some r

theorem runOp_mono (P : Program) (E : EqT) {c d : CallF} (hc : CallLe c d) {e f : Env} (h : Sub e f) (m : Mem) {op : Op} {r : V × Mem × Bool} (hr : runOp P E c e m op = some r) : runOp P E d f m op = some r := by
  unfold runOp at hr ⊢
  cases hq : evQ P E e m op with
  | some v => rw [hq] at hr; rw [evQ_mono P E h m hq]; exact hr
  | none =>
    rw [hq] at hr
    simp only at hr
    cases he : evE P e m op with
    | none => rw [he] at hr; cases hr
    | some q =>
      rw [he] at hr
      rw [evQ_evE P E h m hq he, evE_mono P h m he]
      obtain ⟨q1, q2⟩ := q
      cases q1 with
      | val v => exact hr
      | call g args => exact map_mono' (fun v hv => hc _ _ _ _ hv) hr

theorem wantV_mono {ops : Array Oper} {e f : Env} (h : Sub e f) {o : Oper} {b : Bool} (hb : wantV ops e o = some b) : wantV ops f o = some b := by
  unfold wantV at hb ⊢
  split at hb
  · exact hb
  · split at hb
    · rename_i d hd
      cases hg : e.get d with
      | none => rw [hg] at hb; cases hb
      | some v => rw [hg] at hb; rw [h d v hg]; exact hb
    · exact hb

theorem Sub.put {e f : Env} (h : Sub e f) (t : Nat) (v : V) : Sub (e.put t v) (f.put t v) := fun t' v' hv => by
  rw [Env.get_put] at hv ⊢
  by_cases q : t' = t
  · rw [if_pos q] at hv ⊢; exact hv
  · rw [if_neg q] at hv ⊢; exact h t' v' hv

theorem putD_mono {n : Nat} {e f e' : Env} (h : Sub e f) {dst : Option Nat} {v : V} (hp : putD n e dst v = some e') : ∃ f', putD n f dst v = some f' ∧ Sub e' f' := by
  unfold putD at hp ⊢
  split at hp
  · cases hp; exact ⟨f, rfl, h⟩
  · split at hp
    · cases hp; rename_i hd; exact ⟨_, if_pos hd, h.put _ _⟩
    · cases hp

theorem stepOp_mono (P : Program) (E : EqT) {c d : CallF} (hc : CallLe c d) {ops : Array Oper} {n : Nat} {e f e' : Env} (h : Sub e f) {m m' : Mem} {o : Oper} {v : V} {b : Bool} (hs : stepOp P E c ops n e m o = some (v, e', m', b)) :
    ∃ f', stepOp P E d ops n f m o = some (v, f', m', b) ∧ Sub e' f' := by
  unfold stepOp at hs ⊢
  cases hw : wantV ops e o with
  | none => rw [hw] at hs; cases hs
  | some w =>
    rw [hw] at hs
    rw [wantV_mono h hw]
    cases w with
    | false =>
      obtain ⟨e1, hp, hs⟩ := omap hs
      simp only [Prod.mk.injEq] at hs
      obtain ⟨rfl, rfl, rfl, rfl⟩ := hs
      obtain ⟨f', h1, h2⟩ := putD_mono h hp
      exact ⟨f', by simp only [h1, Option.map_some], h2⟩
    | true =>
      simp only at hs ⊢
      split at hs
      · rename_i v' m1 b' hr
        rw [runOp_mono P E hc h m hr]
        obtain ⟨e1, hp, hs⟩ := omap hs
        simp only [Prod.mk.injEq] at hs
        obtain ⟨rfl, rfl, rfl, rfl⟩ := hs
        obtain ⟨f', h1, h2⟩ := putD_mono h hp
        exact ⟨f', by simp only [h1, Option.map_some], h2⟩
      · cases hs

theorem evOps_mono (P : Program) (E : EqT) {c d : CallF} (hc : CallLe c d) {ops : Array Oper} {n : Nat} : ∀ {l : List Oper} {e f e' : Env} {m m' : Mem}, Sub e f → evOps P E c ops n l e m = some (e', m') →
    ∃ f', evOps P E d ops n l f m = some (f', m') ∧ Sub e' f'
  | [], e, f, e', m, m', h, hr => by simp only [evOps, Option.some.injEq, Prod.mk.injEq] at hr; obtain ⟨rfl, rfl⟩ := hr; exact ⟨f, rfl, h⟩
  | o :: l, e, f, e', m, m', h, hr => by
    unfold evOps at hr ⊢
    split at hr
    · rename_i v e1 m1 b hs
      obtain ⟨f1, h1, h2⟩ := stepOp_mono P E hc h hs
      rw [h1]
      exact evOps_mono P E hc h2 hr
    · cases hr

/-- The same trace, with more known. -/
inductive TrLe : List Rec → List Rec → Prop where
  | nil : TrLe [] []
  | cons (r s : Rec) (l k : List Rec) (ho : r.o = s.o) (he : Sub r.env s.env) (hm : r.m = s.m) (hv : r.v = s.v) (hf : r.eff = s.eff) (t : TrLe l k) : TrLe (r :: l) (s :: k)

theorem evTrace_mono (P : Program) (E : EqT) {c d : CallF} (hc : CallLe c d) {ops : Array Oper} {n : Nat} : ∀ {l : List Oper} {e f : Env} {m : Mem} {tr : List Rec} {ef : Env} {mf : Mem}, Sub e f → evTrace P E c ops n l e m = some (tr, ef, mf) →
    ∃ tr' ef', evTrace P E d ops n l f m = some (tr', ef', mf) ∧ TrLe tr tr' ∧ Sub ef ef'
  | [], e, f, m, tr, ef, mf, h, hr => by
    simp only [evTrace, Option.some.injEq, Prod.mk.injEq] at hr
    obtain ⟨rfl, rfl, rfl⟩ := hr
    exact ⟨[], f, rfl, .nil, h⟩
  | o :: l, e, f, m, tr, ef, mf, h, hr => by
    unfold evTrace at hr ⊢
    split at hr
    case h_2 => cases hr
    rename_i v e1 m1 b hs
    obtain ⟨f1, h1, h2⟩ := stepOp_mono P E hc h hs
    rw [h1]
    obtain ⟨t, ht, hr⟩ := omap hr
    obtain ⟨t1, t2, t3⟩ := t
    simp only [Prod.mk.injEq] at hr
    obtain ⟨rfl, rfl, rfl⟩ := hr
    obtain ⟨tr', ef', q1, q2, q3⟩ := evTrace_mono P E hc h2 ht
    refine ⟨⟨o, f, m, v, b⟩ :: tr', ef', ?_, .cons _ _ _ _ rfl h rfl rfl rfl q2, q3⟩
    simp only [q1, Option.map_some]

theorem TrLe.get : ∀ {l k : List Rec}, TrLe l k → ∀ {i : Nat} {s : Rec}, k[i]? = some s → ∃ r, l[i]? = some r ∧ r.o = s.o ∧ Sub r.env s.env ∧ r.m = s.m ∧ r.v = s.v ∧ r.eff = s.eff
  | _, _, .nil, i, s, h => by simp at h
  | _, _, .cons r s' l k ho he hm hv hf t, 0, s, h => by simp at h; subst h; exact ⟨r, by simp, ho, he, hm, hv, hf⟩
  | _, _, .cons r s' l k ho he hm hv hf t, i + 1, s, h => by simp at h; obtain ⟨r', h1, h2⟩ := TrLe.get t h; exact ⟨r', by simpa using h1, h2⟩

theorem TrLe.length : ∀ {l k : List Rec}, TrLe l k → l.length = k.length
  | _, _, .nil => rfl
  | _, _, .cons _ _ _ _ _ _ _ _ _ t => by simp [TrLe.length t]

theorem TrLe.mem {l k : List Rec} (h : TrLe l k) (mf : Mem) (p : Nat) : memAt k mf p = memAt l mf p := by
  unfold memAt
  cases hk : k[p]? with
  | none =>
    have : l[p]? = none := by rw [List.getElem?_eq_none_iff] at hk ⊢; rw [h.length]; exact hk
    rw [this]
  | some s =>
    obtain ⟨r, h1, _, _, h2, _⟩ := h.get hk
    rw [h1]; exact h2.symm

theorem TrLe.newAt {l k : List Rec} (h : TrLe l k) (i : Nat) : Sim.newAt k i = Sim.newAt l i := by
  unfold Sim.newAt
  cases hk : k[i]? with
  | none =>
    have : l[i]? = none := by rw [List.getElem?_eq_none_iff] at hk ⊢; rw [h.length]; exact hk
    rw [this]
  | some s =>
    obtain ⟨r, h1, h2, _⟩ := h.get hk
    rw [h1]; simp only [h2]
theorem TrLe.appAt {l k : List Rec} (h : TrLe l k) (i : Nat) : Sim.appAt k i = Sim.appAt l i := by
  unfold Sim.appAt
  cases hk : k[i]? with
  | none =>
    have : l[i]? = none := by rw [List.getElem?_eq_none_iff] at hk ⊢; rw [h.length]; exact hk
    rw [this]
  | some s =>
    obtain ⟨r, h1, h2, _⟩ := h.get hk
    rw [h1]; simp only [h2]

theorem zip_filter_le : ∀ {l k : List Rec}, TrLe l k → ∀ i, ((l.zipIdx i).filter fun p => p.1.eff).map (·.2) = ((k.zipIdx i).filter fun p => p.1.eff).map (·.2)
  | _, _, .nil, i => rfl
  | _, _, .cons r s l k ho he hm hv hf t, i => by
    have ih := zip_filter_le t (i + 1)
    simp only [List.zipIdx_cons, List.filter_cons, hf]
    split <;> simp [ih]

theorem drawOk_mono (P : Program) (E : EqT) {ops : Array Oper} {n : Nat} {c : CallF} {tr tr' : List Rec} {ef : Env} {mf : Mem} (h : TrLe tr tr') (hok : TrOk P E c ops n tr ef mf) (hd : drawOk P E ops tr mf = true) : drawOk P E ops tr' mf = true := by
  have heff : effsOf tr' = effsOf tr := (zip_filter_le h 0).symm
  have hnew : newAt tr' = newAt tr := funext h.newAt
  have happ : appAt tr' = appAt tr := funext h.appAt
  unfold drawOk at hd ⊢
  have hmem : memAt tr' mf = memAt tr mf := funext fun p => h.mem mf p
  rw [heff, hnew, happ, hmem]
  simp only [Bool.and_eq_true] at hd ⊢
  refine ⟨hd.1, ?_⟩
  rw [List.all_eq_true]
  rintro ⟨s, i⟩ hm
  have hs := List.mk_mem_zipIdx_iff_getElem?.1 hm
  obtain ⟨r, h1, ho, he, hmm, hv, hf⟩ := h.get hs
  have h2 := hd.2
  rw [List.all_eq_true] at h2
  have := h2 (r, i) (List.mk_mem_zipIdx_iff_getElem?.2 h1)
  simp only [Bool.or_eq_true] at this ⊢
  have hwant : ∃ b, wantV ops r.env r.o = some b := by
    obtain ⟨_, _, _, q4⟩ := hok _ _ h1
    unfold stepOp at q4
    cases hw : wantV ops r.env r.o with
    | none => rw [hw] at q4; cases q4
    | some b => exact ⟨b, rfl⟩
  obtain ⟨b, hb⟩ := hwant
  have hb' := wantV_mono he hb
  rw [ho] at hb'
  rw [ho, hf] at this
  rw [ho] at hb
  rcases this with ((h3 | h3) | h3) | h3
  · exact .inl (.inl (.inl h3))
  · exact .inl (.inl (.inr h3))
  · refine .inl (.inr ?_)
    rw [hb] at h3; rw [hb']; exact h3
  · refine .inr ?_
    rw [List.all_eq_true] at h3 ⊢
    intro p hp
    have := h3 p hp
    simp only [Bool.or_eq_true] at this ⊢
    rcases this with h4 | h4
    · exact .inl h4
    · refine .inr ?_
      split at h4
      · rename_i v hq
        rw [evQ_mono P E he _ hq, ← hv]; exact h4
      · cases h4

theorem evDraw_mono (P : Program) (E : EqT) {c d : CallF} (hc : CallLe c d) {ops : Array Oper} {n : Nat} {e f e' : Env} {m m' : Mem} (h : Sub e f) (hr : evDraw P E c ops n e m = some (e', m')) :
    ∃ f', evDraw P E d ops n f m = some (f', m') ∧ Sub e' f' := by
  unfold evDraw at hr ⊢
  split at hr
  case h_2 => cases hr
  rename_i tr ef mf ht
  split at hr
  case isFalse => cases hr
  rename_i hd
  cases hr
  rw [Bool.and_eq_true] at hd
  obtain ⟨tr', ef', h1, h2, h3⟩ := evTrace_mono P E hc h ht
  rw [h1]
  have := drawOk_mono P E h2 (evTrace_ok ht).2.2.2 hd.2
  simp only [this, hd.1, Bool.and_self, if_true]
  exact ⟨ef', rfl, h3⟩

theorem evCode_mono (P : Program) (E : EqT) {c d : CallF} (hc : CallLe c d) {lf lg : Nat} (hl : lf ≤ lg) (n : Nat) : ∀ (k : Code) {e f e' : Env} {m m' : Mem} {ex : Ex}, Sub e f → evCode P E c lf n k e m = some (ex, e', m') →
    ∃ f', evCode P E d lg n k f m = some (ex, f', m') ∧ Sub e' f' := by
  intro k
  induction k with
  | skip => intro e f e' m m' ex h hr; cases hr; exact ⟨f, rfl, h⟩
  | ret => intro e f e' m m' ex h hr; cases hr; exact ⟨f, rfl, h⟩
  | exit id => intro e f e' m m' ex h hr; cases hr; exact ⟨f, rfl, h⟩
  | region id ops draw =>
    intro e f e' m m' ex h hr
    unfold evCode at hr ⊢
    split at hr
    case h_2 => cases hr
    rename_i e1 m1 hx
    cases hr
    cases draw with
    | true =>
      rw [if_pos rfl] at hx ⊢
      obtain ⟨f', h1, h2⟩ := evDraw_mono P E hc h hx
      rw [h1]; exact ⟨f', rfl, h2⟩
    | false =>
      rw [if_neg (by simp)] at hx ⊢
      obtain ⟨f', h1, h2⟩ := evOps_mono P E hc h hx
      rw [h1]; exact ⟨f', rfl, h2⟩
  | seq x y ihx ihy =>
    intro e f e' m m' ex h hr
    unfold evCode at hr ⊢
    cases hx : evCode P E c lf n x e m with
    | none => rw [hx] at hr; cases hr
    | some r =>
      obtain ⟨ex1, e1, m1⟩ := r
      rw [hx] at hr
      obtain ⟨f1, h1, h2⟩ := ihx h hx
      rw [h1]
      cases ex1 with
      | normal => exact ihy h2 hr
      | exit id => cases hr; exact ⟨f1, rfl, h2⟩
      | ret => cases hr; exact ⟨f1, rfl, h2⟩
  | cond cc x y ihx ihy =>
    intro e f e' m m' ex h hr
    unfold evCode at hr ⊢
    split at hr
    · rename_i hcc; rw [evX_mono h hcc]; exact ihx h hr
    · rename_i hcc; rw [evX_mono h hcc]; exact ihy h hr
    · cases hr
  | block id x ih =>
    intro e f e' m m' ex h hr
    unfold evCode at hr ⊢
    cases hx : evCode P E c lf n x e m with
    | none => rw [hx] at hr; cases hr
    | some r =>
      obtain ⟨ex1, e1, m1⟩ := r
      rw [hx] at hr
      obtain ⟨f1, h1, h2⟩ := ih h hx
      rw [h1]
      cases ex1 with
      | normal => cases hr; exact ⟨f1, rfl, h2⟩
      | ret => cases hr; exact ⟨f1, rfl, h2⟩
      | exit id' =>
        simp only [Option.some.injEq, Prod.mk.injEq] at hr
        obtain ⟨rfl, rfl, rfl⟩ := hr
        exact ⟨f1, rfl, h2⟩
  | loop x ih =>
    intro e f e' m m' ex h hr
    unfold evCode at hr ⊢
    have key : ∀ (i j : Nat), i ≤ j → ∀ {e f : Env} {m : Mem}, Sub e f → iter (fun e m => evCode P E c lf n x e m) i e m = some (ex, e', m') → ∃ f', iter (fun e m => evCode P E d lg n x e m) j f m = some (ex, f', m') ∧ Sub e' f' := by
      intro i
      induction i with
      | zero => intro j _ e f m _ hr; cases hr
      | succ i ihi =>
        intro j hij e f m h hr
        obtain ⟨j, rfl⟩ : ∃ j', j = j' + 1 := ⟨j - 1, by omega⟩
        unfold iter at hr ⊢
        cases hx : evCode P E c lf n x e m with
        | none => rw [hx] at hr; cases hr
        | some r =>
          obtain ⟨ex1, e1, m1⟩ := r
          rw [hx] at hr
          obtain ⟨f1, h1, h2⟩ := ih h hx
          rw [h1]
          cases ex1 with
          | normal => exact ihi j (by omega) h2 hr
          | exit id => cases hr; exact ⟨f1, rfl, h2⟩
          | ret => cases hr; exact ⟨f1, rfl, h2⟩
    exact key lf lg hl h hr
  | _ => intro e f e' m m' ex h hr; cases hr

theorem resV_mono (P : Program) (m : Mem) {e f : Env} (h : Sub e f) : ∀ {rs : List ResultVar} {l : List V}, resV P m e rs = some l → resV P m f rs = some l
  | [], l, hl => hl
  | .tmp t :: r, l, hl => by
    unfold resV at hl ⊢
    split at hl
    · rename_i v l' hv hl'
      rw [h t v hv, resV_mono P m h hl']; exact hl
    · cases hl
  | .cell p t :: r, l, hl => by
    unfold resV at hl ⊢
    split at hl
    · rename_i v l' hv hl'
      obtain ⟨u, hu, hv⟩ := obind hv
      rw [h p u hu, resV_mono P m h hl']
      simp only [Option.bind_some, hv]; exact hl
    · cases hl

theorem evBody_mono (P : Program) (E : EqT) {c d : CallF} (hc : CallLe c d) {lf lg : Nat} (hl : lf ≤ lg) {fn : Func} {args : List V} {m : Mem} {r : V × Mem} (hr : evBody P E c lf fn args m = some r) : evBody P E d lg fn args m = some r := by
  unfold evBody at hr ⊢
  split at hr
  · cases hr
  · rename_i code hb
    split at hr
    case isFalse => cases hr
    rename_i hlen
    rw [if_pos hlen]
    cases hx : evCode P E c lf fn.ntmps code (argEnv 0 args) m with
    | none => rw [hx] at hr; cases hr
    | some q =>
      obtain ⟨ex, e1, m1⟩ := q
      rw [hx] at hr
      obtain ⟨f1, h1, h2⟩ := evCode_mono P E hc hl fn.ntmps code (Sub.refl _) hx
      rw [h1]
      cases ex with
      | exit id => cases hr
      | normal =>
        simp only at hr ⊢
        cases hv : resV P m1 e1 fn.results.toList with
        | none => rw [hv] at hr; cases hr
        | some l => rw [hv] at hr; rw [resV_mono P m1 h2 hv]; exact hr
      | ret =>
        simp only at hr ⊢
        cases hv : resV P m1 e1 fn.results.toList with
        | none => rw [hv] at hr; cases hr
        | some l => rw [hv] at hr; rw [resV_mono P m1 h2 hv]; exact hr

theorem evCall_mono (P : Program) (E : EqT) (ov : OvT) : ∀ {i j : Nat}, i ≤ j → CallLe (evCall P E ov i) (evCall P E ov j)
  | 0, _, _ => fun g a m r h => by cases h
  | i + 1, 0, h => by omega
  | i + 1, j + 1, h => fun g a m r hr => by
    unfold evCall at hr ⊢
    split at hr
    · exact hr
    · split at hr
      · rename_i fn hf
        split at hr
        · rename_i hb; rw [if_pos hb]; exact evBody_mono P E (evCall_mono P E ov (by omega)) (by omega) hr
        · cases hr
      · cases hr

end Sim
