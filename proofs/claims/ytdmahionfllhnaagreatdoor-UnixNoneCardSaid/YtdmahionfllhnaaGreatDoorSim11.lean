/-
  Lemmas of this claim's own: the operations of one statement, in the text's order, shown to be the model's in whatever order it takes. No condition.
-/
import Derived.Test.YtdmahionfllhnaaGreatDoorSimN
import Derived.Orders
import Derived.Tactics
namespace Sim
open Go Go.MapKept

abbrev CallF := Nat → List V → Mem → Option (V × Mem)

def runOp (P : Program) (E : EqT) (call : CallF) (env : Env) (m : Mem) (op : Op) : Option (V × Mem × Bool) :=
  match evQ P E env m op with
  | some v => some (v, m, false)
  | none => match evE P env m op with
    | some (.val v, m') => some (v, m', true)
    | some (.call g args, m') => (call g args m').map fun r => (r.1, r.2, true)
    | none => none

/-- Is an operation wanted, by what its guard answered? -/
def wantV (ops : Array Oper) (env : Env) (o : Oper) : Option Bool :=
  match o.guard with
  | none => some true
  | some (j, want) => match (ops[j]?).bind (·.dst) with
    | some d => match env.get d with
      | some (.bool b) => some (b == want)
      | some _ => some false
      | none => none
    | none => some false

def putD (n : Nat) (env : Env) (dst : Option Nat) (v : V) : Option Env :=
  match dst with
  | none => some env
  | some d => if d < n then some (env.put d v) else none

def stepOp (P : Program) (E : EqT) (call : CallF) (ops : Array Oper) (n : Nat) (env : Env) (m : Mem) (o : Oper) : Option (V × Env × Mem × Bool) :=
  match wantV ops env o with
  | none => none
  | some false => (putD n env o.dst .und).map fun env' => (.und, env', m, false)
  | some true => match runOp P E call env m o.op with
    | some (v, m', e) => (putD n env o.dst v).map fun env' => (v, env', m', e)
    | none => none

def evOps (P : Program) (E : EqT) (call : CallF) (ops : Array Oper) (n : Nat) : List Oper → Env → Mem → Option (Env × Mem)
  | [], env, m => some (env, m)
  | o :: r, env, m => match stepOp P E call ops n env m o with
    | some (_, env', m', _) => evOps P E call ops n r env' m'
    | none => none

/-- What a call leads to, whether it has a Go body or not. -/
def Leads (P : Program) (s : Sem Next) (w : World) (R : Value → World → Prop) : Prop :=
  match s.run P w with
  | .ok (.value x) w' => R x w'
  | .ok (.enter f args) w' => Calls P f args w' fun e w'' => ∃ x, e = .returned x ∧ R x w''
  | _ => False

def CallOk (P : Program) (call : CallF) : Prop :=
  ∀ g args m v m', call g args m = some (v, m') → ∀ (ρ : Rho) (w : World) (xs : Array Value), MR ρ m w → VRs ρ args xs.toList →
    Leads P (callFunc g xs) w fun x w' => ∃ ρ', Nxt ρ m w ρ' m' w' ∧ VR ρ' v x

theorem op_sound {P : Program} {E : EqT} (hE : EqOk P E) {call : CallF} (hcall : CallOk P call) {ρ : Rho} {m m' : Mem} {w : World} (hm : MR ρ m w) {n : Nat} {env : Env} {a : Act} (he : EnvR ρ n env a.tmps) {o : Oper} {v : V} {e : Bool}
    (h : runOp P E call env m o.op = some (v, m', e)) {K : Act → World → Prop} {Q : Exit → Act → World → Prop} (hK : ∀ x ρ' w', Nxt ρ m w ρ' m' w' → VR ρ' v x → K (a.put o.dst x) w') : o.wp P a w K Q := by
  unfold runOp at h
  unfold Oper.wp
  split at h
  · rename_i v' hq
    cases h
    obtain ⟨x, h1, h2⟩ := evQ_rel hE hm he hq
    rw [h1]
    exact hK x ρ w (.refl hm) h2
  · split at h
    · rename_i v' m'' hq
      cases h
      obtain ⟨x, ρ', w', h1, h2, h3⟩ := evE_rel hm he hq
      rcases h1 with h1 | ⟨h1, rfl⟩
      · rw [h1]; exact hK x ρ' w' h2 h3
      · rw [h1]; exact hK _ ρ' w' h2 h3
    · rename_i g args m'' hq
      obtain ⟨r, hr, h⟩ := omap h
      obtain ⟨r1, r2⟩ := r
      cases h
      obtain ⟨rfl, xs, h1, h2⟩ := evE_rel hm he hq
      have hl := hcall g args _ r1 r2 hr ρ w xs hm h2
      rw [h1]
      unfold Leads at hl
      cases hrun : (callFunc g xs).run P w with
      | halt x w' => rw [hrun] at hl; exact hl.elim
      | ok nx w' =>
        rw [hrun] at hl
        cases nx <;> first | exact hl.elim | skip
        · obtain ⟨ρ', q1, q2⟩ := hl
          exact hK _ ρ' w' q1 q2
        · refine Calls.mono hl ?_
          rintro e w'' ⟨x, rfl, ρ', q1, q2⟩
          exact hK _ ρ' w'' q1 q2
    · cases h

theorem wantV_rel {ρ : Rho} {n : Nat} {env : Env} {a : Act} (he : EnvR ρ n env a.tmps) {ops : Array Oper} {o : Oper} {b : Bool} (h : wantV ops env o = some b) : Region.wanted o (yielded ops a.tmps) = b := by
  unfold wantV at h
  unfold Region.wanted
  split at h
  · rename_i hg; cases h; rw [hg]
  · rename_i j want hg
    rw [hg]
    simp only
    unfold yielded
    split at h
    · rename_i d hd
      rw [hd]
      simp only [Option.bind_some]
      split at h
      · rename_i b' hb
        cases h
        obtain ⟨x, hx, r⟩ := he.2 d _ hb
        cases r
        rw [hx]
        cases b' <;> cases want <;> rfl
      · rename_i v hnb hv
        cases h
        obtain ⟨x, hx, r⟩ := he.2 d _ hv
        rw [hx]
        cases r <;> first | rfl | (exact (hnb _ rfl).elim)
      · cases h
    · rename_i hd
      cases h
      rw [hd]
      rfl

theorem putD_rel {ρ : Rho} {n : Nat} {env env' : Env} {a : Act} (he : EnvR ρ n env a.tmps) {dst : Option Nat} {v : V} {x : Value} (h : putD n env dst v = some env') (hv : VR ρ v x) : EnvR ρ n env' (a.put dst x).tmps := by
  unfold putD at h
  split at h
  · cases h; exact he
  · split at h
    · cases h
      rename_i hd
      exact he.put hd hv
    · cases h

theorem put_defers (a : Act) (dst : Option Tmp) (v : Value) : (a.put dst v).defers = a.defers := by cases dst <;> rfl

theorem und_rel (ρ : Rho) : VR ρ .und undef := .tup _ _ .nil

theorem evOps_sound {P : Program} {E : EqT} (hE : EqOk P E) {call : CallF} (hcall : CallOk P call) {ops : Array Oper} {n : Nat} {Q : Exit → Act → World → Prop} :
    ∀ {l : List Oper} {ρ : Rho} {m m' : Mem} {w : World} {env env' : Env} {a : Act}, MR ρ m w → EnvR ρ n env a.tmps → evOps P E call ops n l env m = some (env', m') →
      (∀ a' w' ρ', Nxt ρ m w ρ' m' w' → EnvR ρ' n env' a'.tmps → a'.defers = a.defers → Q .normal a' w') → wpList P ops Q l a w
  | [], ρ, m, m', w, env, env', a, hm, he, h, hQ => by
    simp only [evOps, Option.some.injEq, Prod.mk.injEq] at h
    obtain ⟨rfl, rfl⟩ := h
    exact hQ a w ρ (.refl hm) he rfl
  | o :: r, ρ, m, m', w, env, env', a, hm, he, h, hQ => by
    unfold evOps at h
    split at h
    case h_2 => cases h
    rename_i v env1 m1 e hs
    unfold stepOp at hs
    split at hs
    · cases hs
    · rename_i hw
      obtain ⟨env2, hp, hs⟩ := omap hs
      cases hs
      unfold wpList
      rw [if_neg (by rw [wantV_rel he hw]; simp)]
      refine evOps_sound hE hcall hm (putD_rel he hp (und_rel ρ)) h fun a' w' ρ' h1 h2 h3 => hQ a' w' ρ' h1 h2 (h3.trans (put_defers _ _ _))
    · rename_i hw
      split at hs
      case h_2 => cases hs
      rename_i v' m2 e' hr
      obtain ⟨env2, hp, hs⟩ := omap hs
      cases hs
      unfold wpList
      rw [if_pos (wantV_rel he hw)]
      refine .inl (op_sound hE hcall hm he hr fun x ρ1 w1 hn hv => ?_)
      have he1 : EnvR ρ1 n env (a.tmps) := he.mono (hn.le hm)
      refine evOps_sound hE hcall hn.mr (putD_rel he1 hp hv) h fun a' w' ρ' h1 h2 h3 => hQ a' w' ρ' (hn.trans h1) h2 (h3.trans (put_defers _ _ _))

/-! a statement that leaves its order open -/

structure Rec where
  o : Oper
  env : Env
  m : Mem
  v : V
  eff : Bool

def evTrace (P : Program) (E : EqT) (call : CallF) (ops : Array Oper) (n : Nat) : List Oper → Env → Mem → Option (List Rec × Env × Mem)
  | [], env, m => some ([], env, m)
  | o :: r, env, m => match stepOp P E call ops n env m o with
    | some (v, env', m', e) => (evTrace P E call ops n r env' m').map fun t => (⟨o, env, m, v, e⟩ :: t.1, t.2)
    | none => none

def envAt (tr : List Rec) (ef : Env) (i : Nat) : Env := match tr[i]? with | some r => r.env | none => ef
def memAt (tr : List Rec) (mf : Mem) (i : Nat) : Mem := match tr[i]? with | some r => r.m | none => mf

theorem evTrace_ok {P : Program} {E : EqT} {call : CallF} {ops : Array Oper} {n : Nat} : ∀ {l : List Oper} {env : Env} {m : Mem} {tr : List Rec} {ef : Env} {mf : Mem}, evTrace P E call ops n l env m = some (tr, ef, mf) →
    tr.length = l.length ∧ envAt tr ef 0 = env ∧ memAt tr mf 0 = m ∧
    ∀ i r, tr[i]? = some r → l[i]? = some r.o ∧ r.env = envAt tr ef i ∧ r.m = memAt tr mf i ∧ stepOp P E call ops n r.env r.m r.o = some (r.v, envAt tr ef (i + 1), memAt tr mf (i + 1), r.eff)
  | [], env, m, tr, ef, mf, h => by
    simp only [evTrace, Option.some.injEq, Prod.mk.injEq] at h
    obtain ⟨rfl, rfl, rfl⟩ := h
    exact ⟨rfl, rfl, rfl, fun i r h => by simp at h⟩
  | o :: l, env, m, tr, ef, mf, h => by
    unfold evTrace at h
    split at h
    case h_2 => cases h
    rename_i v env' m' e hs
    obtain ⟨t, ht, h⟩ := omap h
    obtain ⟨t1, t2, t3⟩ := t
    simp only [Prod.mk.injEq] at h
    obtain ⟨rfl, rfl, rfl⟩ := h
    obtain ⟨h1, h2, h3, h4⟩ := evTrace_ok ht
    refine ⟨by simp [h1], rfl, rfl, fun i r hr => ?_⟩
    cases i with
    | zero =>
      simp at hr; subst hr
      refine ⟨by simp, rfl, rfl, ?_⟩
      have e1 : envAt (⟨o, env, m, v, e⟩ :: t1) t2 (0 + 1) = envAt t1 t2 0 := by simp [envAt]
      have e2 : memAt (⟨o, env, m, v, e⟩ :: t1) t3 (0 + 1) = memAt t1 t3 0 := by simp [memAt]
      rw [e1, e2, h2, h3]; exact hs
    | succ i =>
      simp at hr
      obtain ⟨q1, q2, q3, q4⟩ := h4 i r hr
      have e1 : ∀ j, envAt (⟨o, env, m, v, e⟩ :: t1) t2 (j + 1) = envAt t1 t2 j := fun j => by simp [envAt]
      have e2 : ∀ j, memAt (⟨o, env, m, v, e⟩ :: t1) t3 (j + 1) = memAt t1 t3 j := fun j => by simp [memAt]
      refine ⟨by simpa using q1, by rw [e1]; exact q2, by rw [e2]; exact q3, by rw [e1, e2]; exact q4⟩

/-- Does an operation that leaves memory as it is look into it? -/
def readsMem : Op → Bool
  | .load .. | .lookup .. | .convert .. | .slice .. | .call _ => true
  | _ => false

theorem evQ_still (P : Program) (E : EqT) (env : Env) (m m' : Mem) {op : Op} (h : readsMem op = false) : evQ P E env m op = evQ P E env m' op := by
  cases op <;> simp [readsMem] at h <;> first | rfl | (rename_i f _ _; cases f <;> rfl)

/-- The slots that an operation names, its guard's too. -/
def looks (ops : Array Oper) (o : Oper) : List Nat :=
  (o.op.operands.toList.filterMap fun | .tmp t => some t | _ => none) ++ (match o.guard with | some (g, _) => ((ops[g]?).bind (·.dst)).toList | none => [])

def bef (b : Array Nat) (j i : Nat) : Bool := (b.getD i 0).testBit j

inductive BefR (ops : Array Oper) : Nat → Nat → Prop where
  | one (j i : Nat) (o : Oper) (e : Edge) (ho : ops[i]? = some o) (he : e ∈ o.after.toList) (hb : Region.binds .any e = true) (hj : e.on = j) : BefR ops j i
  | step (j k i : Nat) (o : Oper) (e : Edge) (h : BefR ops j k) (ho : ops[i]? = some o) (he : e ∈ o.after.toList) (hb : Region.binds .any e = true) (hj : e.on = k) : BefR ops j i

theorem bef_fold {ops : Array Oper} {i : Nat} {o : Oper} (ho : ops[i]? = some o) {acc : Array Nat} (hacc : ∀ k j, (acc.getD k 0).testBit j = true → BefR ops j k) :
    ∀ (l : List Edge) (s : Nat), (∀ e ∈ l, e ∈ o.after.toList) → (∀ j, s.testBit j = true → BefR ops j i) →
      ∀ j, (l.foldl (fun s e => if Region.binds .any e then s ||| 2 ^ e.on ||| acc.getD e.on 0 else s) s).testBit j = true → BefR ops j i
  | [], s, _, hs, j, h => hs j h
  | e :: l, s, hl, hs, j, h => by
    simp only [List.foldl_cons] at h
    refine bef_fold ho hacc l _ (fun e' he' => hl e' (List.mem_cons_of_mem _ he')) ?_ j h
    intro j' hj'
    split at hj'
    · rename_i hb
      rw [Nat.testBit_or, Nat.testBit_or, Bool.or_eq_true, Bool.or_eq_true] at hj'
      rcases hj' with (h1 | h1) | h1
      · exact hs j' h1
      · rw [Nat.testBit_two_pow] at h1
        exact .one j' i o e ho (hl e List.mem_cons_self) hb (by simpa using h1)
      · exact .step j' e.on i o e (hacc _ _ h1) ho (hl e List.mem_cons_self) hb rfl
    · exact hs j' hj'

theorem bef_spec (ops : Array Oper) : ∀ i j, ((Region.before ops).getD i 0).testBit j = true → BefR ops j i := by
  unfold Region.before
  rw [← Array.foldl_toList]
  have key : ∀ (l : List Oper) (acc : Array Nat), (∀ k, l[k]? = ops[acc.size + k]?) → (∀ k j, (acc.getD k 0).testBit j = true → BefR ops j k) →
      ∀ i j, ((l.foldl (fun acc o => acc.push (o.after.foldl (fun s e => if Region.binds .any e then s ||| 2 ^ e.on ||| acc.getD e.on 0 else s) 0)) acc).getD i 0).testBit j = true → BefR ops j i := by
    intro l
    induction l with
    | nil => intro acc _ h; simpa using h
    | cons o l ih =>
      intro acc hl hacc
      simp only [List.foldl_cons]
      refine ih _ (fun k => by have := hl (k + 1); simpa [Nat.add_assoc, Nat.add_comm 1 k] using this) ?_
      intro k j hj
      have ho : ops[acc.size]? = some o := by simpa using (hl 0).symm
      by_cases hk : k = acc.size
      · subst hk
        have e1 : ∀ x, (acc.push x).getD acc.size 0 = x := fun x => by simp [Array.getD]
        rw [e1] at hj
        rw [← Array.foldl_toList] at hj
        exact bef_fold ho hacc _ 0 (fun _ h => h) (fun j h => by simp at h) j hj
      · have e1 : ∀ x, (acc.push x).getD k 0 = acc.getD k 0 := fun x => by
          simp only [Array.getD_eq_getD_getElem?, Array.getElem?_push, if_neg hk]
        rw [e1] at hj
        exact hacc k j hj
  exact key ops.toList #[] (by simp) (by simp)

mutual
def V.beq : V → V → Bool
  | .bool a, .bool b => a == b
  | .int k a, .int k' b => decide (k = k') && decide (a = b)
  | .str a, .str b => decide (a = b)
  | .ptr a b, .ptr c d => decide (a = c) && decide (b = d)
  | .nilp, .nilp => true
  | .slc a b c d e, .slc a' b' c' d' e' => decide (a = a') && decide (b = b') && decide (c = c') && decide (d = d') && decide (e = e')
  | .nils, .nils => true
  | .map a, .map b => decide (a = b)
  | .nilm, .nilm => true
  | .fn f a b, .fn f' a' b' => decide (f = f') && Vs.beq a a' && Vs.beq b b'
  | .nilf, .nilf => true
  | .iface t v, .iface t' v' => decide (t = t') && V.beq v v'
  | .nili, .nili => true
  | .agg a, .agg b => Vs.beq a b
  | .tup a, .tup b => Vs.beq a b
  | _, _ => false
def Vs.beq : List V → List V → Bool
  | [], [] => true
  | a :: l, b :: k => V.beq a b && Vs.beq l k
  | _, _ => false
end

mutual
theorem V.beq_eq : ∀ (a b : V), V.beq a b = true → a = b
  | .bool a, b, h => by cases b <;> simp_all [V.beq]
  | .int k a, b, h => by cases b <;> simp_all [V.beq]
  | .str a, b, h => by cases b <;> simp_all [V.beq]
  | .ptr a c, b, h => by cases b <;> simp_all [V.beq]
  | .nilp, b, h => by cases b <;> simp_all [V.beq]
  | .slc a c d e f, b, h => by cases b <;> simp_all [V.beq]
  | .nils, b, h => by cases b <;> simp_all [V.beq]
  | .map a, b, h => by cases b <;> simp_all [V.beq]
  | .nilm, b, h => by cases b <;> simp_all [V.beq]
  | .fn f x y, b, h => by
    cases b with
    | fn f' x' y' =>
      simp only [V.beq, Bool.and_eq_true, decide_eq_true_eq] at h
      rw [h.1.1, Vs.beq_eq _ _ h.1.2, Vs.beq_eq _ _ h.2]
    | _ => simp [V.beq] at h
  | .nilf, b, h => by cases b <;> simp_all [V.beq]
  | .iface t v, b, h => by
    cases b with
    | iface t' v' =>
      simp only [V.beq, Bool.and_eq_true, decide_eq_true_eq] at h
      rw [h.1, V.beq_eq _ _ h.2]
    | _ => simp [V.beq] at h
  | .nili, b, h => by cases b <;> simp_all [V.beq]
  | .agg x, b, h => by
    cases b with
    | agg x' => simp only [V.beq] at h; rw [Vs.beq_eq _ _ h]
    | _ => simp [V.beq] at h
  | .tup x, b, h => by
    cases b with
    | tup x' => simp only [V.beq] at h; rw [Vs.beq_eq _ _ h]
    | _ => simp [V.beq] at h
theorem Vs.beq_eq : ∀ (a b : List V), Vs.beq a b = true → a = b
  | [], [], _ => rfl
  | [], _ :: _, h => by simp [Vs.beq] at h
  | _ :: _, [], h => by simp [Vs.beq] at h
  | a :: l, b :: k, h => by
    simp only [Vs.beq, Bool.and_eq_true] at h
    rw [V.beq_eq _ _ h.1, Vs.beq_eq _ _ h.2]
end

/-- May the statement's operations be taken in any order that its edges allow? Asked of its text alone. -/
def stillOk (ops : Array Oper) : Bool :=
  let b := Region.before ops
  let l := ops.toList.zipIdx
  l.all fun (o, j) =>
    o.after.toList.all (fun e => decide (e.on < j) || !Region.binds .any e) &&
    (looks ops o ++ o.dst.toList).all fun t => l.all fun (p, i) => p.dst != some t || i == j || (if i < j then bef b i j else bef b j i)

theorem stillOk_edge {ops : Array Oper} (h : stillOk ops = true) {j : Nat} {o : Oper} (ho : ops[j]? = some o) {e : Edge} (he : e ∈ o.after.toList) (hb : Region.binds .any e = true) : e.on < j := by
  unfold stillOk at h
  rw [List.all_eq_true] at h
  have hm : (o, j) ∈ ops.toList.zipIdx := by
    rw [List.mk_mem_zipIdx_iff_getElem?]
    simpa using ho
  have := h _ hm
  simp only [Bool.and_eq_true, List.all_eq_true] at this
  have := this.1 e he
  simpa [hb] using this

theorem stillOk_slot {ops : Array Oper} (h : stillOk ops = true) {j i : Nat} {o p : Oper} (ho : ops[j]? = some o) (hp : ops[i]? = some p) {t : Nat} (ht : t ∈ looks ops o ∨ o.dst = some t) (hd : p.dst = some t) (hij : i ≠ j) :
    (i < j → BefR ops i j) ∧ (j < i → BefR ops j i) := by
  unfold stillOk at h
  rw [List.all_eq_true] at h
  have hm : (o, j) ∈ ops.toList.zipIdx := by
    rw [List.mk_mem_zipIdx_iff_getElem?]
    simpa using ho
  have hm2 : (p, i) ∈ ops.toList.zipIdx := by
    rw [List.mk_mem_zipIdx_iff_getElem?]
    simpa using hp
  have := h _ hm
  simp only [Bool.and_eq_true, List.all_eq_true] at this
  have := this.2 t (by simp only [List.mem_append, Option.mem_toList]; exact ht) _ hm2
  simp only [hd, bne_self_eq_false, Bool.false_or, Bool.or_eq_true, beq_iff_eq, hij, false_or] at this
  constructor
  · intro hlt
    rw [if_pos hlt] at this
    exact bef_spec ops j i this
  · intro hlt
    rw [if_neg (by omega)] at this
    exact bef_spec ops i j this

def effsOf (tr : List Rec) : List Nat := (tr.zipIdx.filter fun p => p.1.eff).map (·.2)

def newAt (tr : List Rec) (i : Nat) : Bool := match tr[i]? with | some r => newOp r.o.op | none => false
def appAt (tr : List Rec) (i : Nat) : Bool := match tr[i]? with | some r => appOp r.o.op | none => false

def Blk.beq : Blk → Blk → Bool
  | .cells a, .cells b => Vs.beq a b
  | .ro a, .ro b => Vs.beq a b
  | .map a, .map b => Vs.beq (a.map (·.1)) (b.map (·.1)) && Vs.beq (a.map (·.2)) (b.map (·.2))
  | .dead, .dead => true
  | _, _ => false
theorem pairs_eq {α β : Type} : ∀ {a b : List (α × β)}, a.map (·.1) = b.map (·.1) → a.map (·.2) = b.map (·.2) → a = b
  | [], [], _, _ => rfl
  | [], _ :: _, h, _ => by simp at h
  | _ :: _, [], h, _ => by simp at h
  | (x, y) :: a, (x', y') :: b, h1, h2 => by
    simp only [List.map_cons, List.cons.injEq] at h1 h2
    rw [pairs_eq h1.2 h2.2]
    rw [show x = x' from h1.1, show y = y' from h2.1]
theorem Blk.beq_eq {a b : Blk} (h : Blk.beq a b = true) : a = b := by
  cases a <;> cases b <;> simp [Blk.beq] at h ⊢
  · exact Vs.beq_eq _ _ h
  · exact Vs.beq_eq _ _ h
  · exact pairs_eq (Vs.beq_eq _ _ h.1) (Vs.beq_eq _ _ h.2)

/-- What a step does not do to a block. -/
def KeepP (m m' : Mem) (b : Nat) : Prop := m'.get b = m.get b ∧ m.size ≤ m'.size ∧ ∀ t ∈ m'.ty, t.b = b → t ∈ m.ty
def keepQ (m m' : Mem) (b : Nat) : Bool :=
  (match m'.get b, m.get b with | some x, some y => Blk.beq x y | none, none => true | _, _ => false) && Nat.ble m.size m'.size && m'.ty.all fun t => !Nat.beq t.b b || m.ty.contains t
theorem keepQ_iff {m m' : Mem} {b : Nat} (h : keepQ m m' b = true) : KeepP m m' b := by
  unfold keepQ at h
  simp only [Bool.and_eq_true, List.all_eq_true, Bool.or_eq_true, Bool.not_eq_true'] at h
  obtain ⟨⟨h1, h2⟩, h3⟩ := h
  refine ⟨?_, by simpa using h2, fun t ht hb => ?_⟩
  · split at h1
    · rename_i x y hx hy; rw [hx, hy, Blk.beq_eq h1]
    · rename_i hx hy; rw [hx, hy]
    · cases h1
  · rcases h3 t ht with h4 | h4
    · subst hb; simp at h4
    · simpa using h4

/-- Does what came of it in the text's order come of it in any order? -/
def drawOk (P : Program) (E : EqT) (ops : Array Oper) (tr : List Rec) (mf : Mem) : Bool :=
  let b := Region.before ops
  let effs := effsOf tr
  stillOk ops &&
  (effs.all fun e1 => effs.all fun e2 => !decide (e1 < e2) || bef b e1 e2 || (newAt tr e1 && (newAt tr e2 || appAt tr e2 || keepQ (memAt tr mf e2) (memAt tr mf (e2 + 1)) (memAt tr mf e1).size))) &&
  tr.zipIdx.all fun (r, i) => r.eff || !readsMem r.o.op || (match wantV ops r.env r.o with | some true => false | _ => true) ||
    (0 :: effs.map (· + 1)).all fun p => !(effs.all (fun e => !bef b e i || decide (e < p)) && effs.all (fun e => !bef b i e || decide (p ≤ e) || newAt tr e) && (decide (p = 0) || !bef b i (p - 1))) ||
      (match evQ P E r.env (memAt tr mf p) r.o.op with | some v => V.beq v r.v | none => false)

/-! a statement's operations in another order: those that make memory early -/

def inv (L : List Nat) (j : Nat) : Nat := L.idxOf j
def renum (L : List Nat) (o : Oper) : Oper := { o with after := o.after.map fun e => { e with on := inv L e.on }, guard := o.guard.map fun p => (inv L p.1, p.2) }
def permA (ops : Array Oper) (L : List Nat) : Array Oper := (L.map fun i => renum L (ops.getD i default)).toArray
def permOk (n : Nat) (L : List Nat) : Bool :=
  Nat.beq L.length n && ((List.range n).all fun i => Nat.blt (inv L i) n) && (List.range n).all fun k => Nat.blt (L.getD k n) n && Nat.beq (inv L (L.getD k n)) k

/-- Effects, by their kind (a guess for the order alone). -/
def effS : Op → Bool
  | .alloc _ | .box .. | .buildSlice .. | .makeSlice .. | .makeMap .. | .store .. | .mapUpdate .. | .insert .. => true
  | .call { callee := .builtin .len, .. } | .call { callee := .builtin .min, .. } | .call { callee := .builtin .max, .. } | .call { callee := .builtin .unsafeSliceData, .. } => false
  | .call _ => true
  | _ => false

def needArr (ops : Array Oper) : Bool :=
  let b := Region.before ops
  let l := ops.toList.zipIdx
  l.any fun (o1, i) => effS o1.op && l.any fun (o2, j) => decide (i < j) && effS o2.op && !bef b i j && !newOp o1.op

def rdy (ops : Array Oper) (L : List Nat) : List Nat :=
  (List.range ops.size).filter fun i => !L.contains i && ((ops[i]?).map fun o => o.after.toList.all fun e => !Region.binds .any e || L.contains e.on).getD false
def pickN (ops : Array Oper) (l : List Nat) : Option Nat :=
  match l.find? fun i => ((ops[i]?).map fun o => !effS o.op).getD false with
  | some i => some i
  | none => match l.find? fun i => ((ops[i]?).map fun o => newOp o.op).getD false with
    | some i => some i
    | none => l.head?
def orderGo (ops : Array Oper) : Nat → List Nat → List Nat
  | 0, L => L
  | k + 1, L => match pickN ops (rdy ops L) with
    | some i => orderGo ops k (L ++ [i])
    | none => L
def arr (ops : Array Oper) : Array Oper :=
  match needArr ops with
  | false => ops
  | true => permA ops (orderGo ops ops.size [])
def arrOk (ops : Array Oper) : Bool :=
  match needArr ops with
  | false => true
  | true => permOk ops.size (orderGo ops ops.size [])

def evDraw (P : Program) (E : EqT) (call : CallF) (ops : Array Oper) (n : Nat) (env : Env) (m : Mem) : Option (Env × Mem) :=
  match evTrace P E call (arr ops) n (arr ops).toList env m with
  | some (tr, ef, mf) => if (arrOk ops && drawOk P E (arr ops) tr mf) = true then some (ef, mf) else none
  | none => none

end Sim
