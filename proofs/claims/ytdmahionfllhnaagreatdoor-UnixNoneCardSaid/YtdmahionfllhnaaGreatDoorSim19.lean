/-
  Lemmas of this claim's own: code and functions, said forward. No condition.
-/
import Derived.Test.YtdmahionfllhnaaGreatDoorSim18
namespace Sim
open Go Go.MapKept

/-! which slots are still wanted -/

def opdMask : Operand → Nat
  | .tmp t => 2 ^ t
  | _ => 0
def clearM (K : Nat) (dst : Option Nat) : Nat := match dst with | some d => K ^^^ (K &&& 2 ^ d) | none => K
def lookMask : List Nat → Nat
  | [] => 0
  | t :: l => 2 ^ t ||| lookMask l
def liveOps (ops : Array Oper) : List Oper → Nat → Nat
  | [], L => L
  | o :: r, L => clearM (liveOps ops r L) o.dst ||| lookMask (looks ops o)
def lookB : List (Nat × Nat) → Nat → Nat
  | [], _ => 0
  | (i, L) :: r, id => if i = id then L else lookB r id
def live (R : Nat) : Code → List (Nat × Nat) → Nat → Nat
  | .skip, _, L => L
  | .ret, _, _ => R
  | .exit id, B, _ => lookB B id
  | .region _ ops _, _, L => liveOps ops ops.toList L
  | .seq a b, B, L => live R a B (live R b B L)
  | .cond c a b, B, L => opdMask c ||| live R a B L ||| live R b B L
  | .block id c, B, L => live R c ((id, L) :: B) L
  | .loop c, B, _ => live R c B 0
  | _, _, L => L

/-! where the text is cut -/

def nrm : List (Option Nat) → Nat
  | [] => 0
  | none :: l => nrm l + 1
  | some _ :: l => nrm l
def offN : List (Option Nat) → List (Option Nat)
  | [] => []
  | none :: l => offN l
  | x :: l => x :: offN l
def inB (id : Nat) : List (Option Nat) → List (Option Nat)
  | [] => []
  | none :: l => none :: inB id l
  | some i :: l => (if i = id then none else some i) :: inB id l
def outs : Code → List (Option Nat)
  | .skip | .region .. => [none]
  | .exit id => [some id]
  | .seq a b => offN (outs a) ++ outs b
  | .cond _ a b => outs a ++ outs b
  | .block id c => inB id (outs c)
  | .loop c => offN (outs c) ++ offN (outs c)
  | _ => []
def flat : Code → Bool
  | .seq a b => flat a && Nat.ble (nrm (outs a)) 1 && flat b
  | .cond _ a b => flat a && flat b
  | .block _ c => flat c
  | .loop _ => false
  | _ => true
def inl (a : Code) : Bool := flat a && Nat.ble (nrm (outs a)) 1

/-- A part of a piece of code, by its place. -/
def sub : Code → List Nat → Code
  | c, [] => c
  | .seq a b, i :: l => match i with | 0 => sub a l | _ => sub b l
  | .cond _ a b, i :: l => match i with | 0 => sub a l | _ => sub b l
  | .block _ c, _ :: l => sub c l
  | .loop c, _ :: l => sub c l
  | c, _ => c
def bodyOf (fn : Func) : Code := fn.body.getD .skip

section
variable (P : Program) (E : EqT) (ov : OvT)

def kSeq (n : Nat) (b : Code) (Q : Ex → Env → Mem → Prop) (ex : Ex) (e : Env) (m : Mem) : Prop :=
  match ex with
  | .normal => RunP P E ov n b e m Q
  | .exit i => Q (.exit i) e m
  | .ret => Q .ret e m
def kBlk (id : Nat) (Q : Ex → Env → Mem → Prop) (ex : Ex) (e : Env) (m : Mem) : Prop :=
  match ex with
  | .normal => Q .normal e m
  | .exit i => Q (if i = id then .normal else .exit i) e m
  | .ret => Q .ret e m
def kLoop (n : Nat) (c : Code) (Q : Ex → Env → Mem → Prop) (ex : Ex) (e : Env) (m : Mem) : Prop :=
  match ex with
  | .normal => RunP P E ov n (.loop c) e m Q
  | .exit i => Q (.exit i) e m
  | .ret => Q .ret e m

def W (n R : Nat) : Code → List (Nat × Nat) → Nat → Env → Mem → (Ex → Env → Mem → Prop) → Prop
  | .skip, _, L, env, m, Q => Q .normal (keepM n L env) m
  | .ret, _, _, env, m, Q => Q .ret (keepM n R env) m
  | .exit id, B, _, env, m, Q => Q (.exit id) (keepM n (lookB B id) env) m
  | .region _ ops draw, _, L, env, m, Q => match draw with
    | false => WOps P E ov n ops ops.toList env m fun e m' => Q .normal (keepM n L e) m'
    | true => WTr P E ov n (arr ops) (arr ops).toList env m [] fun e m' acc => Nw (match arrOk ops && ordOk P (arr ops) acc.reverse with | true => some () | false => none) fun _ => KeepK (memW acc.reverse m') (keeps (arr ops) acc.reverse) (ChkK P E ov (memW acc.reverse m') (chks (arr ops) acc.reverse) (Q .normal (keepM n L e) m'))
  | .seq a b, B, L, env, m, Q => match inl a with
    | true => W n R a B (live R b B L) env m fun ex e m' => match ex with
      | .normal => W n R b B L e m' Q
      | .exit i => Q (.exit i) e m'
      | .ret => Q .ret e m'
    | false => W n R a B (live R b B L) env m (kSeq P E ov n b Q)
  | .cond c a b, B, L, env, m, Q => Nw (evX env c) fun v => Cnd v (W n R a B L env m Q) (W n R b B L env m Q)
  | .block id c, B, L, env, m, Q => W n R c ((id, L) :: B) L env m (kBlk id Q)
  | .loop c, B, _, env, m, Q => RunP P E ov n (.loop c) (keepM n (live R c B 0) env) m Q
  | _, _, _, _, _, _ => False

theorem RunP.block {n id : Nat} {c : Code} {env : Env} {m : Mem} {Q : Ex → Env → Mem → Prop} (h : RunP P E ov n c env m (kBlk id Q)) : RunP P E ov n (.block id c) env m Q := by
  obtain ⟨i, ex, f', m', e1, h1, h2, h3⟩ := h
  cases ex with
  | normal => exact ⟨i, _, f', m', e1, by unfold evCode; rw [h1], h2, h3⟩
  | ret => exact ⟨i, _, f', m', e1, by unfold evCode; rw [h1], h2, h3⟩
  | exit k => exact ⟨i, _, f', m', e1, by unfold evCode; rw [h1], h2, h3⟩

theorem W_sound {n R : Nat} : ∀ (c : Code) {B : List (Nat × Nat)} {L : Nat} {env : Env} {m : Mem} {Q : Ex → Env → Mem → Prop}, W P E ov n R c B L env m Q → RunP P E ov n c env m Q := by
  intro c
  induction c with
  | skip => intro B L env m Q h; exact ⟨0, .normal, env, m, _, rfl, keepM_sub _ _ _, h⟩
  | ret => intro B L env m Q h; exact ⟨0, .ret, env, m, _, rfl, keepM_sub _ _ _, h⟩
  | exit id => intro B L env m Q h; exact ⟨0, .exit id, env, m, _, rfl, keepM_sub _ _ _, h⟩
  | region id ops draw =>
    intro B L env m Q h
    cases draw with
    | false =>
      unfold W at h
      obtain ⟨i, f', m', e1, h1, h2, h3⟩ := WOps_sound P E ov (Sub.refl env) h
      exact ⟨i, .normal, f', m', _, by unfold evCode; simp [h1], (keepM_sub n L e1).trans h2, h3⟩
    | true =>
      unfold W at h
      obtain ⟨i, tr, ef, mf, e1, trW, h1, h2, h3, h4⟩ := WTr_sound P E ov (Sub.refl env) h
      simp only [List.append_nil, List.reverse_reverse] at h3
      obtain ⟨u, h5, h3⟩ := Nw_iff.1 h3
      have hord : arrOk ops = true ∧ ordOk P (arr ops) trW = true := by
        rw [← Bool.and_eq_true]
        cases ho : arrOk ops && ordOk P (arr ops) trW with
        | true => rfl
        | false => rw [ho] at h5; cases h5
      obtain ⟨h3, hkp⟩ := KeepK_sound h3
      obtain ⟨h6, h7⟩ := ChkK_sound P E ov h3
      obtain ⟨q1, _, _, q4⟩ := evTrace_ok h1
      have hdraw := drawOk_of P E ov h4 (by simpa using q1) q4 hord.2 hkp h7
      refine ⟨i, .normal, ef, mf, _, ?_, (keepM_sub n L e1).trans h2, h6⟩
      unfold evCode evDraw
      simp only [h1, hdraw, hord.1, Bool.and_self, if_true]
  | seq a b iha ihb =>
    intro B L env m Q h
    unfold W at h
    split at h
    · refine RunP.seq P E ov (RunP.mono P E ov (iha h) fun ex e m' hk => ?_)
      cases ex with
      | normal => exact ihb hk
      | exit i => exact hk
      | ret => exact hk
    · refine RunP.seq P E ov (RunP.mono P E ov (iha h) fun ex e m' hk => ?_)
      cases ex with
      | normal => exact hk
      | exit i => exact hk
      | ret => exact hk
  | cond c a b iha ihb =>
    intro B L env m Q h
    unfold W at h
    obtain ⟨v, h1, h⟩ := Nw_iff.1 h
    unfold Cnd at h
    split at h
    · obtain ⟨i, ex, f', m', e1, k1, k2, k3⟩ := iha h
      exact ⟨i, ex, f', m', e1, by unfold evCode; rw [h1]; exact k1, k2, k3⟩
    · obtain ⟨i, ex, f', m', e1, k1, k2, k3⟩ := ihb h
      exact ⟨i, ex, f', m', e1, by unfold evCode; rw [h1]; exact k1, k2, k3⟩
    · exact h.elim
  | block id c ih =>
    intro B L env m Q h
    unfold W at h
    exact RunP.block P E ov (ih h)
  | loop c ih =>
    intro B L env m Q h
    unfold W at h
    exact RunP.sub P E ov (keepM_sub _ _ _) h
  | _ => intro B L env m Q h; exact h.elim

/-- A loop's one round. -/
theorem loop_sound {n R : Nat} {c : Code} {B : List (Nat × Nat)} {L : Nat} {env : Env} {m : Mem} {Q : Ex → Env → Mem → Prop} (h : W P E ov n R c B L env m (kLoop P E ov n c Q)) : RunP P E ov n (.loop c) env m Q := by
  refine RunP.loop P E ov (RunP.mono P E ov (W_sound P E ov c h) fun ex e m' hk => ?_)
  cases ex with
  | normal => exact hk
  | exit i => exact hk
  | ret => exact hk

/-! functions -/

def resW (m : Mem) (env : Env) : List ResultVar → (List V → Prop) → Prop
  | [], K => K []
  | .tmp t :: r, K => Nw (env.get t) fun v => resW m env r fun l => K (v :: l)
  | .cell p t :: r, K => Nw (env.get p) fun a => Bnd (loadV P t a m) fun v => resW m env r fun l => K (v :: l)

theorem resW_sound {m : Mem} {e f : Env} (hs : Sub e f) : ∀ {rs : List ResultVar} {K : List V → Prop}, resW P m e rs K → ∃ l, resV P m f rs = some l ∧ K l
  | [], K, h => ⟨[], rfl, h⟩
  | .tmp t :: r, K, h => by
    unfold resW at h
    obtain ⟨v, h1, h⟩ := Nw_iff.1 h
    obtain ⟨l, h2, h3⟩ := resW_sound hs h
    exact ⟨v :: l, by unfold resV; rw [hs _ _ h1, h2], h3⟩
  | .cell p t :: r, K, h => by
    unfold resW at h
    obtain ⟨a, h1, h⟩ := Nw_iff.1 h
    obtain ⟨v, h2, h⟩ := Bnd_iff.1 h
    obtain ⟨l, h3, h4⟩ := resW_sound hs h
    exact ⟨v :: l, by unfold resV; rw [hs _ _ h1, Option.bind_some, h2, h3], h4⟩

def tupV : List V → V
  | [v] => v
  | l => .tup l

def kRet (rs : List ResultVar) (K : V → Mem → Prop) (ex : Ex) (e : Env) (m : Mem) : Prop :=
  match ex with
  | .exit _ => False
  | .normal => resW P m e rs fun l => K (tupV l) m
  | .ret => resW P m e rs fun l => K (tupV l) m

def resMask : List ResultVar → Nat
  | [] => 0
  | .tmp t :: r => 2 ^ t ||| resMask r
  | .cell p _ :: r => 2 ^ p ||| resMask r

def WB (fn : Func) (args : List V) (m : Mem) (K : V → Mem → Prop) : Prop :=
  match Nat.ble args.length fn.ntmps with
  | true => W P E ov fn.ntmps (resMask fn.results.toList) (bodyOf fn) [] (resMask fn.results.toList) (argEnv 0 args) m (kRet P fn.results.toList K)
  | false => False

theorem WB_sound {g : Nat} {fn : Func} (hf : P.funcs[g]? = some fn) (hb : (fn.body.isSome && !(fn.name == "runtime.NumGoroutine")) = true) (ho : ov g = none) {args : List V} {m : Mem} {K : V → Mem → Prop} (h : WB P E ov fn args m K) : CallP P E ov g args m K := by
  unfold WB at h
  split at h
  · rename_i hl
    obtain ⟨i, ex, f', m', e1, h1, h2, h3⟩ := W_sound P E ov _ h
    have hfin : ∃ l, resV P m' f' fn.results.toList = some l ∧ K (tupV l) m' ∧ ∀ k, ex ≠ .exit k := by
      cases ex with
      | exit k => exact h3.elim
      | normal => obtain ⟨l, q1, q2⟩ := resW_sound P h2 h3; exact ⟨l, q1, q2, fun k q => by cases q⟩
      | ret => obtain ⟨l, q1, q2⟩ := resW_sound P h2 h3; exact ⟨l, q1, q2, fun k q => by cases q⟩
    obtain ⟨l, q1, q2, q3⟩ := hfin
    refine ⟨i + 1, tupV l, m', ?_, q2⟩
    unfold evCall
    rw [ho]
    simp only [hf]
    rw [if_pos hb]
    unfold evBody
    simp only [Bool.and_eq_true, Option.isSome_iff_exists] at hb
    obtain ⟨⟨c, hc⟩, _⟩ := hb
    have hbo : bodyOf fn = c := by unfold bodyOf; rw [hc]; rfl
    rw [hbo] at h1
    simp only [hc]
    rw [if_pos (Nat.le_of_ble_eq_true hl), h1]
    cases ex with
    | exit k => exact (q3 k rfl).elim
    | normal =>
      simp only [q1]
      match l with
      | [] => rfl
      | [_] => rfl
      | _ :: _ :: _ => rfl
    | ret =>
      simp only [q1]
      match l with
      | [] => rfl
      | [_] => rfl
      | _ :: _ :: _ => rfl
  · exact h.elim

theorem CallP.mono {g : Nat} {args : List V} {m : Mem} {K K' : V → Mem → Prop} (h : CallP P E ov g args m K) (hk : ∀ v m, K v m → K' v m) : CallP P E ov g args m K' :=
  let ⟨k, v, m', h1, h2⟩ := h; ⟨k, v, m', h1, hk _ _ h2⟩

theorem calls_of (hE : EqOk P E) (hmix : P.follows .mixedOrders = true) (hov : OvOk P ov) {g : Nat} {args : List V} {m : Mem} {K : V → Mem → Prop} (ho : ov g = none) (h : CallP P E ov g args m K)
    {ρ : Rho} {w : World} {xs : Array Value} (hm : MR ρ m w) (hx : VRs ρ args xs.toList) :
    Calls P g xs w fun e w' => ∃ x, e = .returned x ∧ ∃ ρ' v m', Nxt ρ m w ρ' m' w' ∧ VR ρ' v x ∧ K v m' := by
  obtain ⟨k, v, m', h1, h2⟩ := h
  cases k with
  | zero => cases h1
  | succ k =>
    unfold evCall at h1
    rw [ho] at h1
    simp only at h1
    split at h1
    case h_2 => cases h1
    rename_i fn hf
    split at h1
    case isFalse => cases h1
    have := calls_sound hE hmix hov hf h1 hm hx
    exact Calls.mono this fun e w' hp => by
      obtain ⟨x, q1, ρ', q2, q3⟩ := hp
      exact ⟨x, q1, ρ', v, m', q2, q3, h2⟩

end

end Sim
