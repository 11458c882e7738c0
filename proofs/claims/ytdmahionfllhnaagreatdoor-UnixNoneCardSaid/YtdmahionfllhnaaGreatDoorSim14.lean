/-
  Lemmas of this claim's own: code and calls over abstract memory, shown to be the model's. No condition.
-/
import Derived.Test.YtdmahionfllhnaaGreatDoorSim13
import Derived.Deep.LoopGhost
namespace Sim
open Go Go.MapKept

inductive Ex where
  | normal
  | exit (id : Nat)
  | ret
  deriving DecidableEq

def Ex.toExit : Ex → Exit
  | .normal => .normal
  | .exit id => .exit id
  | .ret => .ret

abbrev Out := Option (Ex × Env × Mem)

def iter (f : Env → Mem → Out) : Nat → Env → Mem → Out
  | 0, _, _ => none
  | k + 1, env, m => match f env m with
    | some (.normal, env', m') => iter f k env' m'
    | r => r

def evCode (P : Program) (E : EqT) (call : CallF) (lf n : Nat) : Code → Env → Mem → Out
  | .skip, env, m => some (.normal, env, m)
  | .ret, env, m => some (.ret, env, m)
  | .exit id, env, m => some (.exit id, env, m)
  | .region _ ops draw, env, m => match (if draw then evDraw P E call ops n env m else evOps P E call ops n ops.toList env m) with
    | some (env', m') => some (.normal, env', m')
    | none => none
  | .seq a b, env, m => match evCode P E call lf n a env m with
    | some (.normal, env', m') => evCode P E call lf n b env' m'
    | r => r
  | .cond c a b, env, m => match evX env c with
    | some (.bool true) => evCode P E call lf n a env m
    | some (.bool false) => evCode P E call lf n b env m
    | _ => none
  | .block id c, env, m => match evCode P E call lf n c env m with
    | some (.exit id', env', m') => some (if id' = id then .normal else .exit id', env', m')
    | r => r
  | .loop c, env, m => iter (fun e m => evCode P E call lf n c e m) lf env m
  | _, _, _ => none

/-- What the model's run of a piece of code comes to. -/
def CPost (n : Nat) (ρ : Rho) (m : Mem) (w : World) (d : List Deferred) (ex : Ex) (env' : Env) (m' : Mem) (e : Exit) (a' : Act) (w' : World) : Prop :=
  e = ex.toExit ∧ ∃ ρ', Nxt ρ m w ρ' m' w' ∧ EnvR ρ' n env' a'.tmps ∧ a'.defers = d

theorem CPost.trans {n : Nat} {ρ ρ1 : Rho} {m m1 m2 : Mem} {w w1 w' : World} {d : List Deferred} {ex : Ex} {env' : Env} {e : Exit} {a' : Act} (h : Nxt ρ m w ρ1 m1 w1) (k : CPost n ρ1 m1 w1 d ex env' m2 e a' w') : CPost n ρ m w d ex env' m2 e a' w' :=
  let ⟨k1, ρ', k2, k3, k4⟩ := k; ⟨k1, ρ', h.trans k2, k3, k4⟩

theorem code_sound {P : Program} {E : EqT} (hE : EqOk P E) {call : CallF} (hcall : CallOk P call) (hmix : P.follows .mixedOrders = true) (lf n : Nat) :
    ∀ (c : Code) {env env' : Env} {m m' : Mem} {ex : Ex}, evCode P E call lf n c env m = some (ex, env', m') → ∀ {ρ : Rho} {w : World} {a : Act}, MR ρ m w → EnvR ρ n env a.tmps →
      c.wp P (CPost n ρ m w a.defers ex env' m') a w := by
  intro c
  induction c with
  | skip => intro env env' m m' ex h ρ w a hm he; cases h; exact wp_skip ⟨rfl, ρ, .refl hm, he, rfl⟩
  | ret => intro env env' m m' ex h ρ w a hm he; cases h; exact wp_ret ⟨rfl, ρ, .refl hm, he, rfl⟩
  | exit id => intro env env' m m' ex h ρ w a hm he; cases h; exact wp_exit ⟨rfl, ρ, .refl hm, he, rfl⟩
  | region id ops draw =>
    intro env env' m m' ex h ρ w a hm he
    unfold evCode at h
    split at h
    case h_2 => cases h
    rename_i env1 m1 hr
    cases h
    cases draw with
    | true =>
      rw [if_pos rfl] at hr
      exact evDraw_sound hE hcall hmix hm he hr fun a' w' ρ' h1 h2 h3 => ⟨rfl, ρ', h1, h2, h3⟩
    | false =>
      rw [if_neg (by simp)] at hr
      exact wp_region_list (evOps_sound hE hcall hm he hr fun a' w' ρ' h1 h2 h3 => ⟨rfl, ρ', h1, h2, h3⟩)
  | seq x y ihx ihy =>
    intro env env' m m' ex h ρ w a hm he
    unfold evCode at h
    cases hx : evCode P E call lf n x env m with
    | none => rw [hx] at h; cases h
    | some r =>
      obtain ⟨ex1, env1, m1⟩ := r
      rw [hx] at h
      refine wp_seq (wp_mono (ihx hx hm he) ?_)
      rintro e a1 w1 ⟨rfl, ρ1, k1, k2, k3⟩
      cases ex1 with
      | normal =>
        simp only at h
        show y.wp P _ a1 w1
        refine wp_mono (ihy h k1.mr k2) fun e a' w' hp => ?_
        rw [k3] at hp
        exact hp.trans k1
      | exit id => cases h; exact ⟨rfl, ρ1, k1, k2, k3⟩
      | ret => cases h; exact ⟨rfl, ρ1, k1, k2, k3⟩
  | cond c x y ihx ihy =>
    intro env env' m m' ex h ρ w a hm he
    unfold evCode at h
    split at h
    · rename_i hc
      have hv := evX_rel he hc
      have hb : a.eval c = .bool true := by cases hq : a.eval c <;> rw [hq] at hv <;> cases hv; rfl
      exact wp_cond_true hb (ihx h hm he)
    · rename_i hc
      have hv := evX_rel he hc
      have hb : a.eval c = .bool false := by cases hq : a.eval c <;> rw [hq] at hv <;> cases hv; rfl
      exact wp_cond_false hb (ihy h hm he)
    · cases h
  | block id c ih =>
    intro env env' m m' ex h ρ w a hm he
    unfold evCode at h
    cases hx : evCode P E call lf n c env m with
    | none => rw [hx] at h; cases h
    | some r =>
      obtain ⟨ex1, env1, m1⟩ := r
      rw [hx] at h
      refine wp_block (wp_mono (ih hx hm he) ?_)
      rintro e a1 w1 ⟨rfl, ρ1, k1, k2, k3⟩
      cases ex1 with
      | normal => cases h; exact ⟨rfl, ρ1, k1, k2, k3⟩
      | ret => cases h; exact ⟨rfl, ρ1, k1, k2, k3⟩
      | exit id' =>
        simp only [Option.some.injEq, Prod.mk.injEq] at h
        obtain ⟨rfl, rfl, rfl⟩ := h
        simp only [Ex.toExit, Exit.inBlock]
        by_cases q : id' = id
        · rw [if_pos q, if_pos q]; exact ⟨rfl, ρ1, k1, k2, k3⟩
        · rw [if_neg q, if_neg q]; exact ⟨rfl, ρ1, k1, k2, k3⟩
  | loop c ih =>
    intro env env' m m' ex h ρ w a hm he
    unfold evCode at h
    refine wp_loop_ghost (fun k a1 w1 => ∃ env1 m1 ρ1, iter (fun e m => evCode P E call lf n c e m) k env1 m1 = some (ex, env', m') ∧ Nxt ρ m w ρ1 m1 w1 ∧ EnvR ρ1 n env1 a1.tmps ∧ a1.defers = a.defers) lf
      ⟨env, m, ρ, h, .refl hm, he, rfl⟩ ?_
    rintro k a1 w1 ⟨env1, m1, ρ1, hi, k1, k2, k3⟩
    cases k with
    | zero => cases hi
    | succ k =>
      unfold iter at hi
      cases hx : evCode P E call lf n c env1 m1 with
      | none => rw [hx] at hi; cases hi
      | some r =>
        obtain ⟨ex2, env2, m2⟩ := r
        rw [hx] at hi
        refine wp_mono (ih hx k1.mr k2) ?_
        rintro e a2 w2 ⟨rfl, ρ2, q1, q2, q3⟩
        cases ex2 with
        | normal =>
          exact ⟨k, by omega, _, _, ρ2, hi, k1.trans q1, q2, q3.trans k3⟩
        | exit id => cases hi; exact ⟨rfl, ρ2, k1.trans q1, q2, q3.trans k3⟩
        | ret => cases hi; exact ⟨rfl, ρ2, k1.trans q1, q2, q3.trans k3⟩
  | _ => intro env env' m m' ex h; cases h

def resV (P : Program) (m : Mem) (env : Env) : List ResultVar → Option (List V)
  | [] => some []
  | .tmp t :: r => match env.get t, resV P m env r with
    | some v, some l => some (v :: l)
    | _, _ => none
  | .cell p t :: r => match (env.get p).bind (fun v => loadV P t v m), resV P m env r with
    | some v, some l => some (v :: l)
    | _, _ => none

def resF (tmps : Array Value) : ResultVar → Sem Value
  | .tmp t => pure (tmps.getD t undef)
  | .cell p t => do loadVar t (← asAddr (tmps.getD p undef))

theorem results_eq (fn : Func) (tmps : Array Value) : results fn tmps = (do let vs ← fn.results.mapM (resF tmps); pure (if h : vs.size = 1 then vs[0] else .tuple vs)) := by
  unfold results
  congr 1

theorem resV_rel {P : Program} {ρ : Rho} {m : Mem} {w : World} (hm : MR ρ m w) {n : Nat} {env : Env} {tmps : Array Value} (he : EnvR ρ n env tmps) : ∀ {rs : List ResultVar} {l : List V}, resV P m env rs = some l →
    ∃ xs : List Value, (rs.mapM (resF tmps)).run P w = .ok xs w ∧ VRs ρ l xs
  | [], l, h => by simp [resV] at h; subst h; exact ⟨[], rfl, .nil⟩
  | .tmp t :: r, l, h => by
    unfold resV at h
    split at h
    · rename_i v l' hv hl
      cases h
      obtain ⟨xs, h1, h2⟩ := resV_rel hm he hl
      obtain ⟨x, hx, hr⟩ := he.2 t v hv
      refine ⟨x :: xs, ?_, .cons _ _ _ _ hr h2⟩
      simp only [List.mapM_cons, resF, Sem.run_bind, Sem.run_pure, Result.andThen_ok]
      rw [h1]
      simp [hx]
    · cases h
  | .cell p t :: r, l, h => by
    unfold resV at h
    split at h
    · rename_i v l' hv hl
      cases h
      obtain ⟨pv, hp, hv⟩ := obind hv
      obtain ⟨xs, h1, h2⟩ := resV_rel hm he hl
      obtain ⟨x, hx, hr⟩ := he.2 p pv hp
      obtain ⟨y, h3, h4⟩ := loadV_rel (P := P) hm hv hr
      refine ⟨y :: xs, ?_, .cons _ _ _ _ h4 h2⟩
      have hxd : tmps.getD p undef = x := by simp [hx]
      have hpt : ∃ ad, x = .pointer (some ad) := by
        unfold loadV at hv
        split at hv
        · cases hr; exact ⟨_, rfl⟩
        · cases hv
      obtain ⟨ad, rfl⟩ := hpt
      have h3' : (loadVar t ad).run P w = .ok y w := by simpa [Instr.loadAt, Instr.sureAddr] using h3
      have ha : (asAddr (tmps.getD p undef)).run P w = .ok ad w := by rw [hxd]; rfl
      simp only [List.mapM_cons, resF, Sem.run_bind, ha, Sem.run_pure, Result.andThen_ok, h3']
      rw [h1]; rfl
    · cases h

def argEnv : Nat → List V → Env
  | _, [] => []
  | i, v :: r => (i, v) :: argEnv (i + 1) r

theorem argEnv_get : ∀ {l : List V} {i t : Nat} {v : V}, (argEnv i l).get t = some v → i ≤ t ∧ l[t - i]? = some v
  | [], i, t, v, h => by simp [argEnv, Env.get] at h
  | u :: l, i, t, v, h => by
    simp only [argEnv, Env.get] at h
    split at h
    · cases h; subst_vars; simp
    · obtain ⟨h1, h2⟩ := argEnv_get h
      refine ⟨by omega, ?_⟩
      rw [show t - i = (t - (i + 1)) + 1 from by omega]
      simpa using h2

def evBody (P : Program) (E : EqT) (call : CallF) (lf : Nat) (fn : Func) (args : List V) (m : Mem) : Option (V × Mem) :=
  match fn.body with
  | none => none
  | some c =>
    if args.length ≤ fn.ntmps then
      match evCode P E call lf fn.ntmps c (argEnv 0 args) m with
      | some (.exit _, _, _) => none
      | some (_, env', m') => match resV P m' env' fn.results.toList with
        | some [v] => some (v, m')
        | some l => some (.tup l, m')
        | none => none
      | none => none
    else none

theorem body_sound {P : Program} {E : EqT} (hE : EqOk P E) {call : CallF} (hcall : CallOk P call) (hmix : P.follows .mixedOrders = true) {lf g : Nat} {fn : Func} (hf : P.funcs[g]? = some fn) {args : List V} {m m' : Mem} {v : V}
    (h : evBody P E call lf fn args m = some (v, m')) {ρ : Rho} {w : World} {xs : Array Value} (hm : MR ρ m w) (hx : VRs ρ args xs.toList) :
    Calls P g xs w fun e w' => ∃ x, e = .returned x ∧ ∃ ρ', Nxt ρ m w ρ' m' w' ∧ VR ρ' v x := by
  unfold evBody at h
  split at h
  · cases h
  · rename_i c hb
    split at h
    case isFalse => cases h
    rename_i hlen
    have hxl := hx.length
    simp only [Array.length_toList] at hxl
    refine calls_of_wp hf hb ?_
    have he : EnvR ρ fn.ntmps (argEnv 0 args) (xs ++ Array.replicate (fn.ntmps - xs.size) undef) := by
      refine ⟨by simp; omega, fun t u ht => ?_⟩
      obtain ⟨_, h2⟩ := argEnv_get ht
      obtain ⟨x, h3, h4⟩ := hx.get h2
      have hlt : t < xs.size := by
        have := (List.getElem?_eq_some_iff.1 h2).1
        omega
      refine ⟨x, ?_, h4⟩
      rw [Array.getElem?_append_left hlt]
      simpa using h3
    cases hc : evCode P E call lf fn.ntmps c (argEnv 0 args) m with
    | none => rw [hc] at h; cases h
    | some r =>
      obtain ⟨ex, env', m1⟩ := r
      rw [hc] at h
      have hw := code_sound hE hcall hmix lf fn.ntmps c hc (a := { tmps := xs ++ Array.replicate (fn.ntmps - xs.size) undef, defers := [] }) hm he
      refine wp_mono hw ?_
      rintro e a' w' ⟨rfl, ρ', k1, k2, k3⟩
      have fin : ∀ l, resV P m1 env' fn.results.toList = some l → (v, m') = ((match l with | [v] => v | l => .tup l), m1) →
          a'.defers = [] ∧ ∃ x, (results fn a'.tmps).run P w' = .ok x w' ∧ ∃ y, Ending.returned x = .returned y ∧ ∃ ρ', Nxt ρ m w ρ' m' w' ∧ VR ρ' v y := by
        intro l hl hv
        obtain ⟨ys, h1, h2⟩ := resV_rel k1.mr k2 hl
        have hrun : (fn.results.mapM (resF a'.tmps)).run P w' = .ok ys.toArray w' := by
          rw [Array.mapM_eq_mapM_toList]
          simp only [Sem.run_map, h1, Result.andThen_ok]
        have hres : (results fn a'.tmps).run P w' = .ok (if h : ys.toArray.size = 1 then ys.toArray[0] else .tuple ys.toArray) w' := by
          rw [results_eq, Sem.run_bind, hrun]; rfl
        refine ⟨k3, _, hres, _, rfl, ρ', ?_⟩
        simp only [Prod.mk.injEq] at hv
        obtain ⟨hv1, rfl⟩ := hv
        refine ⟨k1, ?_⟩
        cases h2 with
        | nil => rw [hv1]; exact .tup _ _ .nil
        | cons u y l' ys' hu ht =>
          cases ht with
          | nil => rw [hv1]; simpa using hu
          | cons u2 y2 l2 ys2 hu2 ht2 => rw [hv1]; exact .tup _ _ (.cons _ _ _ _ hu (.cons _ _ _ _ hu2 ht2))
      cases ex with
      | exit id => cases h
      | normal =>
        simp only at h
        split at h
        · rename_i v0 hr; cases h; exact fin _ hr rfl
        · rename_i l hne hr; cases h; refine fin _ hr ?_; split <;> first | rfl | (exact (hne _ rfl).elim)
        · cases h
      | ret =>
        simp only at h
        split at h
        · rename_i v0 hr; cases h; exact fin _ hr rfl
        · rename_i l hne hr; cases h; refine fin _ hr ?_; split <;> first | rfl | (exact (hne _ rfl).elim)
        · cases h

abbrev OvT := Nat → Option (List V → Mem → Option (V × Mem))

def evCall (P : Program) (E : EqT) (ov : OvT) : Nat → CallF
  | 0 => fun _ _ _ => none
  | k + 1 => fun g args m =>
    match ov g with
    | some F => F args m
    | none => match P.funcs[g]? with
      | some fn => if fn.body.isSome && !(fn.name == "runtime.NumGoroutine") then evBody P E (evCall P E ov k) k fn args m else none
      | none => none

/-- The calls that are taken by what is known of them. -/
def OvOk (P : Program) (ov : OvT) : Prop :=
  ∀ g F, ov g = some F → ∀ args m v m', F args m = some (v, m') → ∀ (ρ : Rho) (w : World) (xs : Array Value), MR ρ m w → VRs ρ args xs.toList →
    Leads P (callFunc g xs) w fun x w' => ∃ ρ', Nxt ρ m w ρ' m' w' ∧ VR ρ' v x

theorem evCall_ok {P : Program} {E : EqT} (hE : EqOk P E) (hmix : P.follows .mixedOrders = true) {ov : OvT} (hov : OvOk P ov) : ∀ k, CallOk P (evCall P E ov k)
  | 0 => fun g args m v m' h => by cases h
  | k + 1 => fun g args m v m' h ρ w xs hm hx => by
    have ih := evCall_ok hE hmix hov k
    unfold evCall at h
    split at h
    · rename_i F hF
      exact hov g F hF args m v m' h ρ w xs hm hx
    · split at h
      case h_2 => cases h
      rename_i fn hf
      split at h
      case isFalse => cases h
      rename_i hb
      simp only [Bool.and_eq_true, Bool.not_eq_true', Option.isSome_iff_exists] at hb
      obtain ⟨⟨c, hc⟩, hname⟩ := hb
      have hrun : (callFunc g xs).run P w = .ok (.enter g xs) w := by
        unfold callFunc
        simp only [Sem.run_bind, run_program, Result.andThen_ok, hf, hname, hc]
        rfl
      unfold Leads
      rw [hrun]
      exact body_sound hE ih hmix hf h hm hx

/-- The whole: what is reckoned over abstract memory is what the model's call comes to. -/
theorem calls_sound {P : Program} {E : EqT} (hE : EqOk P E) (hmix : P.follows .mixedOrders = true) {ov : OvT} (hov : OvOk P ov) {k lf g : Nat} {fn : Func} (hf : P.funcs[g]? = some fn) {args : List V} {m m' : Mem} {v : V}
    (h : evBody P E (evCall P E ov k) lf fn args m = some (v, m')) {ρ : Rho} {w : World} {xs : Array Value} (hm : MR ρ m w) (hx : VRs ρ args xs.toList) :
    Calls P g xs w fun e w' => ∃ x, e = .returned x ∧ ∃ ρ', Nxt ρ m w ρ' m' w' ∧ VR ρ' v x :=
  body_sound hE (evCall_ok hE hmix hov k) hmix hf h hm hx

end Sim
