/-
  Lemmas of this claim's own: what pieces of code and calls come to, said forward. No condition.
-/
import Derived.Test.YtdmahionfllhnaaGreatDoorSim17
namespace Sim
open Go Go.MapKept

section
variable (P : Program) (E : EqT) (ov : OvT)

def effsW (l : List WRec) : List Nat := (l.zipIdx.filter fun p => p.1.1.eff).map (·.2)
def memW (l : List WRec) (mf : Mem) (i : Nat) : Mem := match l[i]? with | some r => r.1.m | none => mf

def newW (l : List WRec) (i : Nat) : Bool := match l[i]? with | some r => newOp r.1.o.op | none => false
def appW (l : List WRec) (i : Nat) : Bool := match l[i]? with | some r => appOp r.1.o.op | none => false

/-- At which other places may a reading be taken? -/
def chks (ops : Array Oper) (l : List WRec) : List (Nat × Rec) :=
  let b := Region.before ops
  let effs := effsW l
  l.zipIdx.flatMap fun (r, i) =>
    if r.2 && !r.1.eff && readsMem r.1.o.op then
      ((0 :: effs.map (· + 1)).filter fun p =>
        effs.all (fun e => !bef b e i || decide (e < p)) && effs.all (fun e => !bef b i e || decide (p ≤ e) || newW l e) && (decide (p = 0) || !bef b i (p - 1)) &&
        effs.any (fun e => decide (min p i ≤ e) && decide (e < max p i))).map fun p => (p, r.1)
    else []

/-- Which steps must leave which new block as it is? -/
def keeps (ops : Array Oper) (l : List WRec) : List (Nat × Nat) :=
  let b := Region.before ops
  let effs := effsW l
  effs.flatMap fun e1 => (effs.filter fun e2 => decide (e1 < e2) && !bef b e1 e2 && !newW l e2 && !appW l e2).map fun e2 => (e1, e2)
def KeepK (mm : Nat → Mem) : List (Nat × Nat) → Prop → Prop
  | [], K => K
  | (e1, e2) :: t, K => KeepP (mm e2) (mm (e2 + 1)) (mm e1).size ∧ KeepK mm t K
theorem KeepK_sound {mm : Nat → Mem} : ∀ {l : List (Nat × Nat)} {K : Prop}, KeepK mm l K → K ∧ ∀ p ∈ l, KeepP (mm p.2) (mm (p.2 + 1)) (mm p.1).size
  | [], K, h => ⟨h, fun p hp => by cases hp⟩
  | (e1, e2) :: t, K, h => by
    obtain ⟨q1, q2⟩ := KeepK_sound h.2
    refine ⟨q1, fun p hp => ?_⟩
    rcases List.mem_cons.1 hp with rfl | hp
    · exact h.1
    · exact q2 p hp

def ordOk (ops : Array Oper) (l : List WRec) : Bool :=
  let b := Region.before ops
  let effs := effsW l
  (stillOk ops && effs.all fun e1 => effs.all fun e2 => !decide (e1 < e2) || bef b e1 e2 || newW l e1) && l.all fun r => !r.2 || r.1.eff == isEff P r.1.o.op

def ChkK (mm : Nat → Mem) : List (Nat × Rec) → Prop → Prop
  | [], K => K
  | (p, r) :: t, K => W1 P E ov r.env (mm p) (fun v _ => v = r.v ∧ ChkK mm t K) r.o.op

theorem ChkK_sound {mm : Nat → Mem} : ∀ {l : List (Nat × Rec)} {K : Prop}, ChkK P E ov mm l K → K ∧ ∀ p r, (p, r) ∈ l → W1 P E ov r.env (mm p) (fun v _ => v = r.v) r.o.op
  | [], K, h => ⟨h, fun p r hm => by cases hm⟩
  | (p, r) :: t, K, h => by
    unfold ChkK at h
    have mono : ∀ {k k' : V → Mem → Prop} {env : Env} {m : Mem} {op : Op}, (∀ v m, k v m → k' v m) → W1 P E ov env m k op → W1 P E ov env m k' op := by
      intro k k' env m op hk hw
      have hn : ∀ {α : Type} {o : Option α} {f g : α → Prop}, (∀ a, f a → g a) → Nw o f → Nw o g := fun hfg hh => let ⟨a, h1, h2⟩ := Nw_iff.1 hh; Nw_iff.2 ⟨a, h1, hfg _ h2⟩
      have hb : ∀ {α : Type} {o : Option α} {f g : α → Prop}, (∀ a, f a → g a) → Bnd o f → Bnd o g := fun hfg hh => let ⟨a, h1, h2⟩ := Bnd_iff.1 hh; Bnd_iff.2 ⟨a, h1, hfg _ h2⟩
      have hp : ∀ {c : V} {a b : Option V} {f g : V → Prop}, (∀ a, f a → g a) → pickP c a b f → pickP c a b g := fun hfg hh => by
        unfold pickP at hh ⊢
        split at hh
        · exact hn hfg hh
        · exact hn hfg hh
        · exact hh
      unfold W1 at hw ⊢
      split at hw
      all_goals first
        | exact hn (fun a => hk _ _) hw
        | exact hn (fun a => hb fun b => hk _ _) hw
        | exact hn (fun a => hn fun b => hb fun c => hk _ _) hw
        | exact hn (fun a => hn fun b => hk _ _) hw
        | exact hn (fun a => hn fun b => hn fun c => hn fun d => hb fun e => hk _ _) hw
        | exact hn (fun a => hn fun b => hn fun c => hb fun e => hk _ _) hw
        | exact hb (fun a => hk _ _) hw
        | exact hk _ _ hw
        | exact hw.elim
        | exact hn (fun a => hp fun b => hk _ _) hw
        | skip
      · split at hw
        · exact hn (fun a => hb fun b => hk _ _) hw
        · exact hn (fun a => hb fun b => hk _ _) hw
      · split at hw
        · exact hn (fun a => hb fun b => hk _ _) hw
        · exact hw.elim
      · split at hw
        · exact hn (fun a => hn fun b => hb fun c => hk _ _) hw
        · exact hw.elim
      · split at hw
        · exact hn (fun a => hn fun b => hb fun c => hk _ _) hw
        · exact hw.elim
      · split at hw
        · exact hn (fun a => hn fun b => hb fun c => hk _ _) hw
        · exact hw.elim
      · split at hw
        · exact hn (fun a => hb fun b => hk _ _) hw
        · exact hw.elim
      · split at hw
        · exact hn (fun a => hn fun b => hb fun c => hk _ _) hw
        · exact hw.elim
      · refine hn (fun a => hn fun b hc => ?_) hw
        unfold CallV at hc ⊢
        split at hc
        · obtain ⟨i, v, m', h1, h2⟩ := hc
          exact ⟨i, v, m', h1, hk _ _ h2⟩
        · exact hc.elim
    have h1 : ChkK P E ov mm t K := by
      obtain ⟨i, v, m', _, h2⟩ := W1_sound P E ov (Sub.refl _) h
      exact h2.2
    obtain ⟨q1, q2⟩ := ChkK_sound h1
    refine ⟨q1, fun p' r' hm => ?_⟩
    rcases List.mem_cons.1 hm with hm | hm
    · cases hm; exact mono (fun _ _ hh => hh.1) h
    · exact q2 p' r' hm

mutual
theorem V.beq_refl : ∀ (v : V), V.beq v v = true
  | .bool a | .int k a | .str a | .ptr a b | .nilp | .slc a b c d e | .nils | .map a | .nilm | .nilf | .nili => by simp [V.beq]
  | .fn f a b => by simp [V.beq, Vs.beq_refl a, Vs.beq_refl b]
  | .iface t v => by simp [V.beq, V.beq_refl v]
  | .agg l => by simp [V.beq, Vs.beq_refl l]
  | .tup l => by simp [V.beq, Vs.beq_refl l]
theorem Vs.beq_refl : ∀ (l : List V), Vs.beq l l = true
  | [] => rfl
  | v :: l => by simp [Vs.beq, V.beq_refl v, Vs.beq_refl l]
end

theorem stepOp_quiet {call : CallF} {ops : Array Oper} {n : Nat} {env env' : Env} {m m' : Mem} {o : Oper} {v : V} (h : stepOp P E call ops n env m o = some (v, env', m', false)) (hw : wantV ops env o = some true) : evQ P E env m o.op = some v := by
  unfold stepOp at h
  rw [hw] at h
  simp only at h
  split at h
  · rename_i v' m1 e' hrun
    obtain ⟨x, _, h⟩ := omap h
    simp only [Prod.mk.injEq] at h
    obtain ⟨h1, _, _, rfl⟩ := h
    unfold runOp at hrun
    split at hrun
    · rename_i hq; cases hrun; rw [hq, h1]
    · split at hrun
      · cases hrun
      · obtain ⟨y, _, hrun⟩ := omap hrun; cases hrun
      · cases hrun
  · cases h

theorem runOp_quiet {call : CallF} {env : Env} {m m' : Mem} {op : Op} {v : V} (h : runOp P E call env m op = some (v, m', false)) : evQ P E env m op = some v := by
  unfold runOp at h
  split at h
  · rename_i hq; cases h; exact hq
  · split at h
    · cases h
    · obtain ⟨y, _, h⟩ := omap h; cases h
    · cases h

theorem TrW.length {ops : Array Oper} : ∀ {l : List WRec} {k : List Rec}, TrW ops l k → l.length = k.length
  | _, _, .nil => rfl
  | _, _, .cons _ _ _ _ _ _ _ _ _ _ _ t => by simp [TrW.length t]

theorem TrW.both {ops : Array Oper} : ∀ {l : List WRec} {k : List Rec}, TrW ops l k → ∀ {i : Nat} {s : Rec}, k[i]? = some s → ∃ r b, l[i]? = some (r, b) ∧ wantV ops s.env s.o = some b ∧ r.o = s.o ∧ Sub r.env s.env ∧ r.m = s.m ∧ r.v = s.v ∧ r.eff = s.eff
  | _, _, .nil, i, s, h => by simp at h
  | _, _, .cons r b s' l k ho he hm hv hf hw t, 0, s, h => by simp at h; subst h; exact ⟨r, b, by simp, hw, ho, he, hm, hv, hf⟩
  | _, _, .cons r b s' l k ho he hm hv hf hw t, i + 1, s, h => by simp at h; obtain ⟨r', b', h1, h2⟩ := TrW.both t h; exact ⟨r', b', by simpa using h1, h2⟩

theorem effsW_eq {l : List WRec} : effsW l = effsOf (l.map (·.1)) := by
  have key : ∀ (l : List WRec) (i : Nat), ((l.zipIdx i).filter fun p => p.1.1.eff).map (·.2) = (((l.map (·.1)).zipIdx i).filter fun p => p.1.eff).map (·.2) := by
    intro l
    induction l with
    | nil => intro i; rfl
    | cons r l ih =>
      intro i
      simp only [List.zipIdx_cons, List.map_cons, List.filter_cons]
      split <;> simp [ih]
  exact key l 0

theorem memW_eq {ops : Array Oper} {l : List WRec} {k : List Rec} (h : TrW ops l k) (mf : Mem) (p : Nat) : memW l mf p = memAt k mf p := by
  unfold memW memAt
  cases hk : k[p]? with
  | none =>
    have : l[p]? = none := by rw [List.getElem?_eq_none_iff] at hk ⊢; rw [h.length]; exact hk
    rw [this]
  | some s =>
    obtain ⟨r, b, h1, _, _, _, h2, _⟩ := h.both hk
    rw [h1]; exact h2

theorem effsK {ops : Array Oper} {l : List WRec} {k : List Rec} (h : TrW ops l k) : effsW l = effsOf k := by
  rw [effsW_eq]; exact zip_filter_le h.le 0

theorem Blk.beq_refl (a : Blk) : Blk.beq a a = true := by
  cases a <;> simp [Blk.beq, Vs.beq_refl]
theorem keepQ_of {m m' : Mem} {b : Nat} (h : KeepP m m' b) : keepQ m m' b = true := by
  obtain ⟨h1, h2, h3⟩ := h
  unfold keepQ
  simp only [Bool.and_eq_true, List.all_eq_true, Bool.or_eq_true, Bool.not_eq_true']
  refine ⟨⟨?_, by simpa using h2⟩, fun t ht => ?_⟩
  · rw [h1]
    split
    · rename_i x y hx hy; rw [hx] at hy; cases hy; exact Blk.beq_refl _
    · rfl
    · rename_i h5 h6
      exfalso
      cases hq : m.get b with
      | none => exact h6 hq hq
      | some x => exact h5 x x hq hq
  · cases hq : Nat.beq t.b b with
    | false => exact .inl rfl
    | true => exact .inr (by simpa using h3 t ht (by simpa using hq))

theorem newK {ops : Array Oper} {l : List WRec} {k : List Rec} (h : TrW ops l k) : newW l = newAt k := by
  funext i
  unfold newW newAt
  cases hk : k[i]? with
  | none =>
    have : l[i]? = none := by rw [List.getElem?_eq_none_iff] at hk ⊢; rw [h.length]; exact hk
    rw [this]
  | some s =>
    obtain ⟨r, b, h1, _, h2, _⟩ := h.both hk
    rw [h1]; simp only [h2]
theorem appK {ops : Array Oper} {l : List WRec} {k : List Rec} (h : TrW ops l k) : appW l = appAt k := by
  funext i
  unfold appW appAt
  cases hk : k[i]? with
  | none =>
    have : l[i]? = none := by rw [List.getElem?_eq_none_iff] at hk ⊢; rw [h.length]; exact hk
    rw [this]
  | some s =>
    obtain ⟨r, b, h1, _, h2, _⟩ := h.both hk
    rw [h1]; simp only [h2]

theorem drawOk_of {ops : Array Oper} {n : Nat} {call : CallF} {l : List WRec} {k : List Rec} {ef : Env} {mf : Mem} (ht : TrW ops l k) (hlen : k.length = ops.size) (h4 : TrOk P E call ops n k ef mf) (ho : ordOk P ops l = true)
    (hk : ∀ p ∈ keeps ops l, KeepP (memW l mf p.2) (memW l mf (p.2 + 1)) (memW l mf p.1).size)
    (hc : ∀ p r, (p, r) ∈ chks ops l → W1 P E ov r.env (memW l mf p) (fun v _ => v = r.v) r.o.op) : drawOk P E ops k mf = true := by
  have he := effsK ht
  have hnw := newK ht
  have haw := appK ht
  unfold ordOk at ho
  rw [he, hnw] at ho
  simp only [Bool.and_eq_true] at ho
  unfold drawOk
  simp only [Bool.and_eq_true]
  have hkeep : ((effsOf k).all fun e1 => (effsOf k).all fun e2 => !decide (e1 < e2) || bef (Region.before ops) e1 e2 || (newAt k e1 && (newAt k e2 || appAt k e2 || keepQ (memAt k mf e2) (memAt k mf (e2 + 1)) (memAt k mf e1).size))) = true := by
    have h2 := ho.1.2
    rw [List.all_eq_true] at h2 ⊢
    intro e1 he1
    have h3 := h2 e1 he1
    rw [List.all_eq_true] at h3 ⊢
    intro e2 he2
    have h4 := h3 e2 he2
    cases q1 : decide (e1 < e2) with
    | false => rfl
    | true =>
    cases q2 : bef (Region.before ops) e1 e2 with
    | true => rfl
    | false =>
      rw [q1, q2] at h4
      simp only [Bool.not_true, Bool.false_or] at h4 ⊢
      rw [h4]
      cases q3 : newAt k e2 with
      | true => rfl
      | false => cases q4 : appAt k e2 with
        | true => rfl
        | false =>
          simp only [Bool.or_self, Bool.false_or, Bool.true_and]
          have hm : (e1, e2) ∈ keeps ops l := by
            unfold keeps
            rw [List.mem_flatMap]
            refine ⟨e1, by rw [he]; exact he1, ?_⟩
            rw [List.mem_map]
            refine ⟨e2, ?_, rfl⟩
            rw [List.mem_filter, he, hnw, haw]
            refine ⟨he2, ?_⟩
            rw [q1, q2, q3, q4]; rfl
          have h5 := hk _ hm
          simp only [memW_eq ht] at h5
          exact keepQ_of h5
  refine ⟨⟨ho.1.1, hkeep⟩, ?_⟩
  rw [List.all_eq_true]
  rintro ⟨s, i⟩ hm
  have hs := List.mk_mem_zipIdx_iff_getElem?.1 hm
  obtain ⟨r, b, h1, hw, hro, hre, hrm, hrv, hrf⟩ := ht.both hs
  simp only [Bool.or_eq_true]
  cases hse : s.eff with
  | true => exact .inl (.inl (.inl rfl))
  | false =>
    cases hsr : readsMem s.o.op with
    | false => exact .inl (.inl (.inr rfl))
    | true =>
      cases b with
      | false => refine .inl (.inr ?_); rw [hw]
      | true =>
        refine .inr ?_
        rw [List.all_eq_true]
        intro p hp
        simp only [Bool.or_eq_true]
        by_cases hcond : ((effsOf k).all (fun e => !bef (Region.before ops) e i || decide (e < p)) && (effsOf k).all (fun e => !bef (Region.before ops) i e || decide (p ≤ e) || newAt k e) && (decide (p = 0) || !bef (Region.before ops) i (p - 1))) = true
        case neg => refine .inl ?_; simp only [Bool.not_eq_true] at hcond; rw [hcond]; rfl
        refine .inr ?_
        obtain ⟨_, _, q3, q4⟩ := h4 _ _ hs
        rw [hse] at q4
        have hown := stepOp_quiet P E q4 hw
        have hres : evQ P E s.env (memAt k mf p) s.o.op = some s.v := by
          by_cases hseg : (effsOf k).any (fun e => decide (min p i ≤ e) && decide (e < max p i)) = true
          · have hmem : (p, r) ∈ chks ops l := by
              unfold chks
              rw [List.mem_flatMap]
              refine ⟨((r, true), i), List.mk_mem_zipIdx_iff_getElem?.2 h1, ?_⟩
              simp only [hrf, hse, hro, hsr, Bool.not_false, Bool.and_true]
              rw [if_pos trivial, List.mem_map]
              refine ⟨p, ?_, rfl⟩
              rw [List.mem_filter, he, hnw]
              refine ⟨hp, ?_⟩
              simp only [Bool.and_eq_true] at hcond ⊢
              exact ⟨hcond, hseg⟩
            obtain ⟨j, v, m', hrun, hv⟩ := W1_sound P E ov hre (hc p r hmem)
            rw [hro] at hrun
            have heff : isEff P s.o.op = false := by
              have h5 := ho.2
              rw [List.all_eq_true] at h5
              have h6 := h5 (r, true) (List.mem_of_getElem? h1)
              simp only [Bool.not_true, Bool.false_or, beq_iff_eq, hrf, hse, hro] at h6
              exact h6.symm
            rw [heff] at hrun
            have := runOp_quiet P E hrun
            rw [memW_eq ht] at this
            rw [this, hv, hrv]
          · have hno : ∀ e, min p i ≤ e → e < max p i → e ∉ effsOf k := by
              intro e h5 h6 h7
              apply hseg
              rw [List.any_eq_true]
              exact ⟨e, h7, by simp [h5, h6]⟩
            have hi : i < k.length := (List.getElem?_eq_some_iff.1 hs).1
            have hpl : p ≤ k.length := by
              rcases List.mem_cons.1 hp with rfl | hp
              · omega
              · rw [List.mem_map] at hp
                obtain ⟨e, h5, rfl⟩ := hp
                obtain ⟨r', h6, _⟩ := eff_get h5
                have := (List.getElem?_eq_some_iff.1 h6).1
                omega
            have hmm : memAt k mf p = memAt k mf i := by
              rcases Nat.le_total p i with hpi | hpi
              · have := mem_const (p := p) h4 (i - p) (by omega) (fun e h5 h6 => hno e (by omega) (by omega))
                rw [show p + (i - p) = i from by omega] at this
                exact this.symm
              · have := mem_const (p := i) h4 (p - i) (by omega) (fun e h5 h6 => hno e (by omega) (by omega))
                rw [show i + (p - i) = p from by omega] at this
                exact this
            rw [hmm, ← q3]; exact hown
        rw [hres]
        exact V.beq_refl _

end

end Sim
