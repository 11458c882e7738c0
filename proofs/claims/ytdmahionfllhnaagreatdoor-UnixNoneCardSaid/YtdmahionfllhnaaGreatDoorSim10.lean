/-
  Lemmas of this claim's own: every operation in one function, shown to be the model's. No condition.
-/
import Derived.Test.YtdmahionfllhnaaGreatDoorSim9
namespace Sim
open Go Go.MapKept

theorem exec_builtin (r : Operand → Value) (o : Oper) (b : Builtin) (args : Array Operand) (ts : Array TypeId) (h : o.op = .call { callee := .builtin b, args := args, argTypes := ts }) :
    ∃ cs, execOp r o = builtin b ts o.type cs (args.map r) := by
  refine ⟨args.map fun | .const _ => true | _ => false, ?_⟩
  simp only [execOp, h, resolve, pure_bind, invoke]
  rfl

theorem arr1 {α : Type} {a : Array α} {x : α} (h : a.toList = [x]) : a = #[x] := by
  apply Array.ext'; simpa using h
theorem arr2 {α : Type} {a : Array α} {x y : α} (h : a.toList = [x, y]) : a = #[x, y] := by
  apply Array.ext'; simpa using h

theorem obind {α β : Type} {x : Option α} {f : α → Option β} {b : β} (h : x.bind f = some b) : ∃ a, x = some a ∧ f a = some b := by
  cases x with
  | none => simp at h
  | some a => exact ⟨a, rfl, by simpa using h⟩
theorem omap {α β : Type} {x : Option α} {f : α → β} {b : β} (h : x.map f = some b) : ∃ a, x = some a ∧ f a = b := by
  cases x with
  | none => simp at h
  | some a => exact ⟨a, rfl, by simpa using h⟩

theorem evQ_rel {P : Program} {E : EqT} (hE : EqOk P E) {ρ : Rho} {m : Mem} {w : World} (hm : MR ρ m w) {n : Nat} {env : Env} {a : Act} (he : EnvR ρ n env a.tmps) {o : Oper} {v : V}
    (h : evQ P E env m o.op = some v) : ∃ x, (execOp a.eval o).run P w = .ok (.value x) w ∧ VR ρ v x := by
  obtain ⟨dst, op, ty, pos, after, guard⟩ := o
  simp only at h
  unfold evQ at h
  split at h
  · exact ⟨_, by simp [execOp], evX_rel he h⟩
  · exact ⟨_, by simp [execOp], evX_rel he h⟩
  · split at h
    · rename_i t hc
      have := evX_rel he hc
      cases hx : a.eval _ <;> rw [hx] at this <;> cases this
      cases t with
      | true => exact ⟨_, by simp [execOp, hx, asBool], evX_rel he h⟩
      | false => exact ⟨_, by simp [execOp, hx, asBool], evX_rel he h⟩
    · cases h
  · obtain ⟨p, hp, h⟩ := obind h
    obtain ⟨r, h1, h2⟩ := loadV_rel (P := P) hm h (evX_rel he hp)
    exact ⟨r, by simp [execOp, h1], h2⟩
  · obtain ⟨p, hp, h⟩ := obind h
    have hr := evX_rel he hp
    rename_i x _
    refine ⟨a.eval x, ?_, ?_⟩
    · unfold nilCheckV at h
      split at h <;> (try cases h)
      rename_i n1 n2 n3
      simp only [execOp]
      cases hx : a.eval x <;> rw [hx] at hr <;> cases hr <;> first | rfl | (exfalso; first | exact n1 rfl | exact n2 rfl | exact n3 rfl)
    · unfold nilCheckV at h
      split at h <;> (try cases h)
      exact hr
  · obtain ⟨u, hu, h⟩ := obind h
    obtain ⟨k, hk, h⟩ := obind h
    obtain ⟨r, h1, h2⟩ := evBin_rel (P := P) hE h (evX_rel he hu) (evX_rel he hk) w _ _
    refine ⟨r, ?_, h2⟩
    simp only [execOp]
    rw [Sem.run_bind, h1]; rfl
  · obtain ⟨u, hu, h⟩ := obind h
    obtain ⟨h1, h2⟩ := evUn_rel (P := P) h (evX_rel he hu) w
    exact ⟨_, by simp only [execOp]; rw [Sem.run_bind, h1]; rfl, h2⟩
  · obtain ⟨u, hu, h⟩ := obind h
    obtain ⟨r, h1, h2⟩ := convV_rel (P := P) hm h (evX_rel he hu)
    exact ⟨r, by simp only [execOp]; rw [Sem.run_bind, h1]; rfl, h2⟩
  · obtain ⟨f, hf, h⟩ := obind h
    obtain ⟨c, hc, h⟩ := omap h
    subst h
    refine ⟨_, by simp only [execOp, Instr.makeFunc]; rfl, ?_⟩
    exact .fn _ _ _ _ _ (by simpa using evXs_rel he hf) (by simpa using evXs_rel he hc)
  · split at h
    · cases h
    · rename_i d hni hd
      obtain ⟨u, hu, h⟩ := omap h
      subst h
      refine ⟨_, ?_, .iface _ _ _ (evX_rel he hu)⟩
      have hcn : ∀ t, P.underlying t = some d → P.concrete t = true := by
        intro t hd
        unfold Program.concrete
        rw [hd]
        cases d <;> first | rfl | (exact (hni _ rfl).elim)
      simp only [execOp]
      rw [Sem.run_bind, run_makeInterface w _ _ (hcn _ hd)]; rfl
    · cases h
  · obtain ⟨u, hu, h⟩ := obind h
    obtain ⟨l, hl, h⟩ := obind h
    obtain ⟨hi, hhi, h⟩ := obind h
    obtain ⟨k, hk, h⟩ := obind h
    obtain ⟨r, h1, h2⟩ := sliceV_rel (P := P) hm h (evX_rel he hu) (optX_rel he hl) (optX_rel he hhi) (optX_rel he hk)
    exact ⟨r, by simp only [execOp]; rw [Sem.run_bind, h1]; rfl, h2⟩
  · obtain ⟨u, hu, h⟩ := obind h
    obtain ⟨r, h1, h2⟩ := fieldAddrV_rel (P := P) (w := w) h (evX_rel he hu)
    exact ⟨r, by simp only [execOp]; rw [Sem.run_bind, h1]; rfl, h2⟩
  · obtain ⟨u, hu, h⟩ := obind h
    obtain ⟨r, h1, h2⟩ := fieldV_rel (P := P) (w := w) h (evX_rel he hu)
    exact ⟨r, by simp only [execOp]; rw [Sem.run_bind, h1]; rfl, h2⟩
  · obtain ⟨u, hu, h⟩ := obind h
    obtain ⟨k, hk, h⟩ := obind h
    obtain ⟨r, h1, h2⟩ := indexAddrV_rel (P := P) (w := w) h (evX_rel he hu) (evX_rel he hk)
    exact ⟨r, by simp only [execOp]; rw [Sem.run_bind, h1]; rfl, h2⟩
  · obtain ⟨u, hu, h⟩ := obind h
    obtain ⟨k, hk, h⟩ := obind h
    obtain ⟨r, h1, h2⟩ := indexV_rel (P := P) (w := w) h (evX_rel he hu) (evX_rel he hk)
    exact ⟨r, by simp only [execOp]; rw [Sem.run_bind, h1]; rfl, h2⟩
  · obtain ⟨u, hu, h⟩ := obind h
    obtain ⟨k, hk, h⟩ := obind h
    obtain ⟨r, h1, h2⟩ := lookupV_rel (P := P) hm h (evX_rel he hu) (evX_rel he hk)
    exact ⟨r, by simp only [execOp]; rw [Sem.run_bind, h1]; rfl, h2⟩
  · obtain ⟨u, hu, h⟩ := obind h
    obtain ⟨r, h1, h2⟩ := extractV_rel (P := P) (w := w) h (evX_rel he hu)
    exact ⟨r, by simp only [execOp]; rw [Sem.run_bind, h1]; rfl, h2⟩
  · obtain ⟨l, hl, h⟩ := obind h
    rename_i t ps _
    have hp := partsX_rel he hl
    obtain ⟨r, h1, h2⟩ := buildV_rel (P := P) (w := w) (qs := ps.map fun (p : Nat × Operand) => (p.1, a.eval p.2)) h (by simpa using hp)
    exact ⟨r, by simp only [execOp]; rw [Sem.run_bind, h1]; rfl, h2⟩
  · split at h
    · rename_i args ts _ _ x t hargs hts
      obtain ⟨u, hu, h⟩ := obind h
      have e1 := arr1 hargs
      have e2 := arr1 hts
      subst e1 e2
      obtain ⟨r, h1, h2⟩ := lenV_rel (P := P) (ty := ty) hm h (evX_rel he hu)
      obtain ⟨cs, hc⟩ := exec_builtin a.eval ⟨dst, _, ty, pos, after, guard⟩ .len #[x] #[t] rfl
      refine ⟨r, ?_, h2⟩
      rw [hc]
      simp only [builtin, Sem.run_bind]
      simp only [List.map_toArray, List.map_cons, List.map_nil, h1]; rfl
    · cases h
  · rename_i args ts
    obtain ⟨l, hl, h⟩ := obind h
    obtain ⟨cs, hc⟩ := exec_builtin a.eval ⟨dst, _, ty, pos, after, guard⟩ .min args ts rfl
    have hr := evXs_rel he hl
    unfold minmaxV at h
    split at h
    case h_2 => cases h
    rename_i k x k' y
    cases h
    refine ⟨.int k (if y < x then y else x), ?_, .int _ _⟩
    have hargs : (args.map a.eval).toList = [.int k x, .int k' y] := by
      simp only [Array.toList_map]
      generalize List.map a.eval args.toList = L at hr
      cases hr with
      | cons _ _ _ _ h1 t => cases t with
        | cons _ _ _ _ h2 t => cases t; cases h1; cases h2; rfl
    rw [hc]
    simp only [builtin, Sem.run_bind, Builtin.min_, hargs]
    simp [Builtin.min2]
  · rename_i args ts
    obtain ⟨l, hl, h⟩ := obind h
    obtain ⟨cs, hc⟩ := exec_builtin a.eval ⟨dst, _, ty, pos, after, guard⟩ .max args ts rfl
    have hr := evXs_rel he hl
    unfold minmaxV at h
    split at h
    case h_2 => cases h
    rename_i k x k' y
    cases h
    refine ⟨.int k (if y > x then y else x), ?_, .int _ _⟩
    have hargs : (args.map a.eval).toList = [.int k x, .int k' y] := by
      simp only [Array.toList_map]
      generalize List.map a.eval args.toList = L at hr
      cases hr with
      | cons _ _ _ _ h1 t => cases t with
        | cons _ _ _ _ h2 t => cases t; cases h1; cases h2; rfl
    rw [hc]
    simp only [builtin, Sem.run_bind, Builtin.max_, hargs]
    simp [Builtin.max2]
  · split at h
    · rename_i args ts _ x hargs
      obtain ⟨u, hu, h⟩ := obind h
      have e1 := arr1 hargs
      subst e1
      obtain ⟨cs, hc⟩ := exec_builtin a.eval ⟨dst, _, ty, pos, after, guard⟩ .unsafeSliceData #[x] ts rfl
      obtain ⟨r, h1, h2⟩ := sliceDataV_rel (P := P) (w := w) (ts := ts) (ty := ty) h (evX_rel he hu)
      refine ⟨r, ?_, h2⟩
      rw [hc]
      simp only [builtin, Sem.run_bind]
      simp only [List.map_toArray, List.map_cons, List.map_nil, h1]; rfl
    · cases h
  · cases h

/-- The operations that make memory, write to it, or call. -/
def evE (P : Program) (env : Env) (m : Mem) : Op → Option (OR × Mem)
  | .alloc t => (zeroCells P t).map fun l => (.val (boxV m t l).1, (boxV m t l).2)
  | .box t x => (evX env x).map fun v => (.val (boxV m t v.cells).1, (boxV m t v.cells).2)
  | .buildSlice t n ps => (partsX env ps.toList).bind fun l => (buildSliceV P t n l m).map fun r => (.val r.1, r.2)
  | .makeSlice t l c => (evX env l).bind fun u => (evX env c).bind fun v => (makeSliceV P t u v m).map fun r => (.val r.1, r.2)
  | .makeMap _ none => some (.val (makeMapV m).1, (makeMapV m).2)
  | .store t p x => (evX env p).bind fun u => (evX env x).bind fun v => (storeV P t u v m).map fun r => (.val .und, r)
  | .mapUpdate t x k y | .insert t x k y => (evX env x).bind fun u => (evX env k).bind fun v => (evX env y).bind fun z => (mapUpdV P t u v z m).map fun r => (.val .und, r)
  | .convert s d x => (evX env x).bind fun v => (bytesV P s d v m).map fun r => (.val r.1, r.2)
  | .call { callee := .builtin .append, args, argTypes } => match args.toList, argTypes.toList with
    | [x, y], [t, u] => (evX env x).bind fun s => (evX env y).bind fun v => (appendV P t u s v m).map fun r => (.val r.1, r.2)
    | _, _ => none
  | .call { callee := .builtin .copy, args, argTypes } => match args.toList, argTypes.toList with
    | [x, y], [t, _] => (evX env x).bind fun s => (evX env y).bind fun v => (copyV P t s v m).map fun r => (.val r.1, r.2)
    | _, _ => none
  | .call { callee := .builtin .delete, args, argTypes } => match args.toList, argTypes.toList with
    | [x, y], [t, _] => (evX env x).bind fun s => (evX env y).bind fun v => (delV P t s v m).map fun r => (.val .und, r)
    | _, _ => none
  | .call { callee := .builtin .unsafeString, args, argTypes } => match args.toList, argTypes.toList with
    | [x, y], [t, _] => (evX env x).bind fun s => (evX env y).bind fun v => (textV P t s v m).map fun r => (.val r.1, r.2)
    | _, _ => none
  | .call { callee := .value f, args, argTypes := _ } => match evX env f, evXs env args.toList with
    | some (.fn g first cap), some l => some (.call g (first ++ l ++ cap), m)
    | _, _ => none
  | _ => none

/-- What an operation's run comes to. -/
def Ran (r : Result Next) (x : Value) (w : World) : Prop := r = .ok (.value x) w ∨ (r = .ok .skip w ∧ x = undef)

def EPost (P : Program) (ρ : Rho) (m : Mem) (w : World) (s : Sem Next) (m' : Mem) : OR → Prop
  | .val v => ∃ x ρ' w', Ran (s.run P w) x w' ∧ Nxt ρ m w ρ' m' w' ∧ VR ρ' v x
  | .call g vs => m' = m ∧ ∃ xs : Array Value, s = callFunc g xs ∧ VRs ρ vs xs.toList

theorem evE_rel {P : Program} {ρ : Rho} {m m' : Mem} {w : World} (hm : MR ρ m w) {n : Nat} {env : Env} {a : Act} (he : EnvR ρ n env a.tmps) {o : Oper} {r : OR}
    (h : evE P env m o.op = some (r, m')) : EPost P ρ m w (execOp a.eval o) m' r := by
  obtain ⟨dst, op, ty, pos, after, guard⟩ := o
  simp only at h
  have giv : ∀ {s : Sem Value} {v : V} {m' : Mem}, Gives P ρ m w s v m' → execOp a.eval ⟨dst, op, ty, pos, after, guard⟩ = (do pure (.value (← s))) →
      ∃ x ρ' w', Ran ((execOp a.eval ⟨dst, op, ty, pos, after, guard⟩).run P w) x w' ∧ Nxt ρ m w ρ' m' w' ∧ VR ρ' v x := by
    rintro s v m' ⟨x, ρ', w', h1, h2, h3⟩ hs
    exact ⟨x, ρ', w', .inl (by rw [hs, Sem.run_bind, h1]; rfl), h2, h3⟩
  have und : ∀ ρ', VR ρ' V.und undef := fun ρ' => .tup _ _ .nil
  unfold evE at h
  split at h
  · rename_i t
    obtain ⟨l, hl, h⟩ := omap h
    cases h
    obtain ⟨z, h1, h2⟩ := zeroCells_rel hl w ρ
    obtain ⟨x, ρ', w', h3, h4, h5⟩ := newVar_rel (P := P) (t := t) hm h2
    refine giv ⟨x, ρ', w', ?_, h4, h5⟩ rfl
    simp only [Instr.alloc, Sem.run_bind, h1, Result.andThen_ok]
    exact h3
  · obtain ⟨v, hv, h⟩ := omap h
    cases h
    exact giv (newVar_rel (P := P) hm (evX_rel he hv).cells) rfl
  · rename_i t k ps
    obtain ⟨l, hl, h⟩ := obind h
    obtain ⟨q, hq, h⟩ := omap h
    obtain ⟨q1, q2⟩ := q
    cases h
    exact giv (buildSliceV_rel (P := P) (qs := ps.map fun (p : Nat × Operand) => (p.1, a.eval p.2)) hm hq (by simpa using partsX_rel he hl)) rfl
  · obtain ⟨u, hu, h⟩ := obind h
    obtain ⟨v, hv, h⟩ := obind h
    obtain ⟨q, hq, h⟩ := omap h
    obtain ⟨q1, q2⟩ := q
    cases h
    exact giv (makeSliceV_rel (P := P) hm hq (evX_rel he hu) (evX_rel he hv)) rfl
  · cases h
    exact giv (makeMapV_rel (P := P) hm) rfl
  · obtain ⟨u, hu, h⟩ := obind h
    obtain ⟨v, hv, h⟩ := obind h
    obtain ⟨q, hq, h⟩ := omap h
    cases h
    obtain ⟨w', h1, h2⟩ := storeV_rel (P := P) hm hq (evX_rel he hu) (evX_rel he hv)
    exact ⟨undef, ρ, w', .inr ⟨by simp only [execOp]; rw [Sem.run_bind, h1]; rfl, rfl⟩, h2, und _⟩
  · obtain ⟨u, hu, h⟩ := obind h
    obtain ⟨v, hv, h⟩ := obind h
    obtain ⟨z, hz, h⟩ := obind h
    obtain ⟨q, hq, h⟩ := omap h
    cases h
    obtain ⟨w', h1, h2⟩ := mapUpdV_rel (P := P) hm hq (evX_rel he hu) (evX_rel he hv) (evX_rel he hz)
    exact ⟨undef, ρ, w', .inr ⟨by simp only [execOp]; rw [Sem.run_bind, h1]; rfl, rfl⟩, h2, und _⟩
  · obtain ⟨u, hu, h⟩ := obind h
    obtain ⟨v, hv, h⟩ := obind h
    obtain ⟨z, hz, h⟩ := obind h
    obtain ⟨q, hq, h⟩ := omap h
    cases h
    obtain ⟨w', h1, h2⟩ := mapUpdV_rel (P := P) hm hq (evX_rel he hu) (evX_rel he hv) (evX_rel he hz)
    exact ⟨undef, ρ, w', .inr ⟨by simp only [execOp]; rw [Sem.run_bind, h1]; rfl, rfl⟩, h2, und _⟩
  · obtain ⟨v, hv, h⟩ := obind h
    obtain ⟨q, hq, h⟩ := omap h
    obtain ⟨q1, q2⟩ := q
    cases h
    exact giv (bytesV_rel (P := P) hm hq (evX_rel he hv)) rfl
  · split at h
    case h_2 => cases h
    rename_i args ts _ _ x y t u hargs hts
    obtain ⟨s, hs, h⟩ := obind h
    obtain ⟨v, hv, h⟩ := obind h
    obtain ⟨q, hq, h⟩ := omap h
    obtain ⟨q1, q2⟩ := q
    cases h
    have e1 := arr2 hargs
    have e2 := arr2 hts
    subst e1 e2
    exact giv (appendV_rel (P := P) (ty := ty) hm hq (evX_rel he hs) (evX_rel he hv)) (by
      obtain ⟨cs, hc⟩ := exec_builtin a.eval ⟨dst, _, ty, pos, after, guard⟩ .append #[x, y] #[t, u] rfl
      rw [hc]; simp only [builtin, List.map_toArray, List.map_cons, List.map_nil])
  · split at h
    case h_2 => cases h
    rename_i args ts _ _ x y t u hargs hts
    obtain ⟨s, hs, h⟩ := obind h
    obtain ⟨v, hv, h⟩ := obind h
    obtain ⟨q, hq, h⟩ := omap h
    obtain ⟨q1, q2⟩ := q
    cases h
    have e1 := arr2 hargs
    have e2 := arr2 hts
    subst e1 e2
    exact giv (copyV_rel (P := P) (t2 := u) (ty := ty) hm hq (evX_rel he hs) (evX_rel he hv)) (by
      obtain ⟨cs, hc⟩ := exec_builtin a.eval ⟨dst, _, ty, pos, after, guard⟩ .copy #[x, y] #[t, u] rfl
      rw [hc]; simp only [builtin, List.map_toArray, List.map_cons, List.map_nil])
  · split at h
    case h_2 => cases h
    rename_i args ts _ _ x y t u hargs hts
    obtain ⟨s, hs, h⟩ := obind h
    obtain ⟨v, hv, h⟩ := obind h
    obtain ⟨q, hq, h⟩ := omap h
    cases h
    have e1 := arr2 hargs
    have e2 := arr2 hts
    subst e1 e2
    exact giv (delV_rel (P := P) (kty := u) (ty := ty) hm hq (evX_rel he hs) (evX_rel he hv)) (by
      obtain ⟨cs, hc⟩ := exec_builtin a.eval ⟨dst, _, ty, pos, after, guard⟩ .delete #[x, y] #[t, u] rfl
      rw [hc]; simp only [builtin, List.map_toArray, List.map_cons, List.map_nil])
  · split at h
    case h_2 => cases h
    rename_i args ts _ _ x y t u hargs hts
    obtain ⟨s, hs, h⟩ := obind h
    obtain ⟨v, hv, h⟩ := obind h
    obtain ⟨q, hq, h⟩ := omap h
    obtain ⟨q1, q2⟩ := q
    cases h
    have e1 := arr2 hargs
    have e2 := arr2 hts
    subst e1 e2
    exact giv (textV_rel (P := P) (it := u) (ty := ty) hm hq (evX_rel he hs) (evX_rel he hv)) (by
      obtain ⟨cs, hc⟩ := exec_builtin a.eval ⟨dst, _, ty, pos, after, guard⟩ .unsafeString #[x, y] #[t, u] rfl
      rw [hc]; simp only [builtin, List.map_toArray, List.map_cons, List.map_nil])
  · split at h
    case h_2 => cases h
    rename_i f args ts _ _ g first cap l hf hl
    cases h
    refine ⟨rfl, ?_⟩
    have hr := evX_rel he hf
    have hrs := evXs_rel he hl
    cases hx : a.eval f <;> rw [hx] at hr <;> cases hr
    rename_i fv cv hfr hcr
    refine ⟨fv ++ args.map a.eval ++ cv, ?_, ?_⟩
    · simp only [execOp, resolve, hx, Deferred.ofValue, pure_bind, invoke]
    · simp only [Array.toList_append, Array.toList_map]
      exact (hfr.append hrs).append hcr
  · cases h

end Sim