/-
  Lemmas of this claim's own: from what a call is handed, and what it comes to over abstract memory, to the row's words. Conditions: as in the text before.
-/
import Derived.Test.YtdmahionfllhnaaGreatDoorSimA
import Derived.Test.YtdmahionfllhnaaGreatDoorSim21
import Derived.Carry
import Derived.ProofKit
import Derived.OpenShut
namespace Sim
open Go

/-- A value of a type, in its place. -/
def RdV (P : Program) (m : Mem) (d : Nat) (t : TypeId) (u : V) : Prop :=
  match aggT P t with
  | some true => ∃ l, u = .agg l ∧ Rd P m d t l
  | _ => Rd P m d t [u]

theorem RdV.mono {P : Program} {m m' : Mem} (h : MExt m m') {d : Nat} {t : TypeId} {u : V} (hr : RdV P m d t u) : RdV P m' d t u := by
  unfold RdV at hr ⊢
  split at hr
  · obtain ⟨l, h1, h2⟩ := hr; exact ⟨l, h1, h2.mono h⟩
  · exact Rd.mono h hr

theorem okWide_shape {P : Program} {W : World} {base : Nat} {t : TypeId} {v : Value} {d : Nat} (hp : plainT P d t = true) (h : Value.okWide P W .any base t v) :
    (aggT P t = some true ∧ ∃ cs, v = .agg cs) ∨ (aggT P t = some false ∧ v.cells = #[v]) := by
  cases d with
  | zero => cases hp
  | succ d =>
    unfold plainT at hp
    unfold Value.okWide at h
    unfold aggT
    cases hu : P.underlying t with
    | none => rw [hu] at hp; cases hp
    | some td =>
      rw [hu] at hp h
      cases td <;> first | (simp at hp; done) | skip
      all_goals simp only at h ⊢
      all_goals first
        | (obtain ⟨cs, h1, _⟩ := h; exact .inl ⟨trivial, cs, h1⟩)
        | skip
      all_goals
        refine .inr ⟨trivial, ?_⟩
        unfold Cell.okWide at h
        rw [hu] at h
        cases v <;> first | rfl | (simp [Cell.ok, hu] at h; done)

theorem args_rel {H : Type} {enc : TypeId × Value → H} {P : Program} {w : World} {base : Nat} (hcell : ∃ (cb : Nat) (C : Array Value) (el : TypeId) (fz : Nat × Nat), w.heap[cb]? = some (.cells C el fz)) {d : Nat} :
    ∀ {ts : List TypeId} {vs : List Value} {ds : List (DataW H)} {ps : List MemPlace}, (∀ t ∈ ts, plainT P d t = true) → DataW.TrodAll enc P w 0 (fun _ => true) true ts vs ds ps →
      (∀ (j : Nat) t v, ts[j]? = some t → vs[j]? = some v → Value.okWide P w .any base t v) → ∀ {ρ : Rho} {m : Mem}, MR ρ m w → AllRo m →
      ∃ ρ' m' us, MR ρ' m' w ∧ ρ.le ρ' ∧ MExt m m' ∧ AllRo m' ∧ VRs ρ' us vs ∧ Two (RdV P m' d) ts us
  | [], vs, ds, ps, hp, h, hv, ρ, m, hm, ha => by
    obtain ⟨rfl, rfl, rfl⟩ := ChangeShapes.trodAll_nil h
    exact ⟨ρ, m, [], hm, Rho.le_refl _, .refl m, ha, .nil, .nil⟩
  | t :: ts, vs, ds, ps, hp, h, hv, ρ, m, hm, ha => by
    obtain ⟨v, vs1, d1, ds1, a, b, rfl, rfl, rfl, h1, h2⟩ := ChangeShapes.trodAll_cons h
    obtain ⟨fuel, hf⟩ := h1
    obtain ⟨ρ1, m1, us, a1, a2, a3, a4, a5, a6⟩ := trod_rel hcell (hp t List.mem_cons_self) hf hm ha
    obtain ⟨ρ2, m2, us2, b1, b2, b3, b4, b5, b6⟩ := args_rel hcell (fun t ht => hp t (List.mem_cons_of_mem _ ht)) h2 (fun j t v h3 h4 => hv (j + 1) t v (by simpa using h3) (by simpa using h4)) a1 a4
    have hok := hv 0 t v (by simp) (by simp)
    rcases okWide_shape (hp t List.mem_cons_self) hok with ⟨g1, cs, rfl⟩ | ⟨g1, g2⟩
    · refine ⟨ρ2, m2, .agg us :: us2, b1, Rho.le_trans a2 b2, a3.trans b3, b4, .cons _ _ _ _ (.agg _ _ (a5.mono b2)) b5, .cons _ _ _ _ ?_ b6⟩
      unfold RdV; rw [g1]
      exact ⟨us, rfl, a6.mono b3⟩
    · rw [g2] at a5
      have hl := a5.length
      simp at hl
      obtain ⟨u, rfl⟩ := List.length_eq_one_iff.1 hl
      cases a5 with
      | cons _ _ _ _ hvr _ =>
        refine ⟨ρ2, m2, u :: us2, b1, Rho.le_trans a2 b2, a3.trans b3, b4, .cons _ _ _ _ (hvr.mono b2) b5, .cons _ _ _ _ ?_ b6⟩
        unfold RdV; rw [g1]
        exact a6.mono b3

def Mem.nil : Mem := ⟨[], [], []⟩
theorem MR.nil (w : World) : MR (fun _ => none) Mem.nil w :=
  { blk := fun b e h => (by cases h)
    cb := fun b e h => (by cases h)
    sep := fun b1 b2 e1 e2 h => (by cases h)
    ty := fun t ht => (by cases ht)
    gl := fun p hp => (by cases hp) }
theorem AllRo.nil : AllRo Mem.nil := fun b x h => by simp [Mem.get, Mem.nil] at h

/-- Nothing that was there has turned, if nothing there may be written. -/
theorem Nxt.below {ρ ρ' : Rho} {m m' : Mem} {w w' : World} (ha : AllRo m) (h : Nxt ρ m w ρ' m' w') : RowKit.Below w.heap.size w w' :=
  ⟨h.os, h.tape, h.output, h.size, fun k hk => h.frame k hk fun ⟨b, e, _, _, x, hx, hr⟩ => by rw [ha b x hx] at hr; cases hr⟩

open Go.ChangeShapes Go.ChangeAt Go.RowKit in
theorem post_below {H : Type} {enc : TypeId × Value → H} {P : Program} {f : Func} {s : ChangeSpec} {apart fresh handsOn again : Bool} {W W' : World} {args : Array Value} {v : Value} {ds gs : List (DataW H)} {before pa pv : List MemPlace}
    (hW : DataW.Whole enc P f.params.toList s.vars apart W args.toList ds gs before)
    (hres : ∀ (b : Nat) (sp : Nat → Bool) (hd : Bool), DataW.TrodAll enc P W' b sp hd f.resultTypes.toList (v.resultList f.resultTypes.size) (s.fn H (ds ++ gs)).results [])
    (hargs : ∀ sp : Nat → Bool, (∀ p ∈ before, sp p.block = true) → DataW.TrodAll enc P W' 0 sp true f.params.toList args.toList (s.fn H (ds ++ gs)).args pa)
    (hvars : ∀ sp : Nat → Bool, (∀ p ∈ before, sp p.block = true) → DataW.TrodVars enc P W' sp s.vars (s.fn H (ds ++ gs)).vars pv)
    (hps : before = pa ++ pv) (hb : RowKit.Below W.heap.size W W')
    (hok : ∀ (j : Nat) (t : TypeId) (r : Value), f.resultTypes[j]? = some t → (v.resultList f.resultTypes.size)[j]? = some r → Value.okWide P W' .any 0 t r) :
    s.post enc P f apart fresh handsOn again W args v W' := by
  have hold : ∀ p ∈ before, (fun b => decide (b < W.heap.size)) p.block = true := fun p hp => by simpa using hW.lt p hp
  have hk : W.keptBut W' (fun _ => False) := by
    refine ⟨hb.os, hb.output, fun i hi => ?_⟩
    have e := hb.block i hi
    rw [e]
    cases W.heap[i]? with
    | none => rfl
    | some o => cases o <;> first | rfl | exact ⟨rfl, rfl, rfl, fun _ _ => rfl⟩ | exact .inr ⟨rfl, rfl⟩
  refine ⟨ds, gs, before, [], pa, pv, hW, hres _ _ _, hargs _ hold, hvars _ hold, World.keptBut_mono (fun p hp => hp.elim) hk, fun _ => ?_⟩
  have hlt := hW.lt
  obtain ⟨_, _, _, _, _, hz, hn⟩ := hW
  refine ⟨hok, _, _, ([] ++ pa) ++ pv, ⟨[] ++ pa, pv, trodAll_append (hargs _ (fun _ _ => rfl)) (hres _ _ _), hvars _ (fun _ _ => rfl), rfl, ?_, ?_⟩, ?_⟩
  · intro b off hp
    have hp' : MemPlace.cell b off ∈ before := by rw [hps]; simpa using hp
    have h1 : b < W.heap.size := hlt _ hp'
    have : W'.frozen? ⟨b, off, none⟩ = W.frozen? ⟨b, off, none⟩ := by
      unfold World.frozen?
      simp only [hb.block b h1]
    rw [this]
    exact hz b off hp'
  · intro ha
    have := hn ha
    rw [hps] at this
    simpa using this
  · intro p hp _
    rw [hps]
    simpa using hp

end Sim
