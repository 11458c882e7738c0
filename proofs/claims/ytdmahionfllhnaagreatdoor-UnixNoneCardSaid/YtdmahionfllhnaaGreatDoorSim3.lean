/-
  Lemmas of this claim's own: operations that leave memory as it is, over abstract values; each is shown to be the model's. Conditions: none beyond what the definitions ask.
-/
import Derived.Test.YtdmahionfllhnaaGreatDoorSim2
import Derived.Laws.Strings
namespace Sim
open Go

abbrev Env := List (Nat × V)
def Env.get : Env → Nat → Option V
  | [], _ => none
  | (k, v) :: r, t => if k = t then some v else Env.get r t
def Env.has : Env → Nat → Bool
  | [], _ => false
  | (k, _) :: r, t => if k = t then true else Env.has r t
def Env.upd : Env → Nat → V → Env
  | [], _, _ => []
  | (k, u) :: r, t, v => if k = t then (k, v) :: Env.upd r t v else (k, u) :: Env.upd r t v
def Env.put (env : Env) (t : Nat) (v : V) : Env := if env.has t then env.upd t v else (t, v) :: env

theorem Env.get_upd (env : Env) (t : Nat) (v : V) (t' : Nat) : (env.upd t v).get t' = if t' = t then (if env.has t then some v else none) else env.get t' := by
  induction env with
  | nil => simp [Env.upd, Env.get, Env.has]
  | cons p r ih =>
    obtain ⟨k, u⟩ := p
    simp only [Env.upd, Env.has]
    by_cases h : k = t
    · subst h
      simp only [if_true, Env.get]
      by_cases h2 : k = t'
      · subst h2; simp
      · rw [if_neg h2, ih, if_neg (Ne.symm h2), if_neg (Ne.symm h2), if_neg h2]
    · simp only [if_neg h, Env.get]
      by_cases h2 : k = t'
      · subst h2; simp [h]
      · rw [if_neg h2, if_neg h2, ih]

theorem Env.get_put (env : Env) (t : Nat) (v : V) (t' : Nat) : (env.put t v).get t' = if t' = t then some v else env.get t' := by
  unfold Env.put
  split
  · rename_i h
    rw [Env.get_upd, h]; simp
  · simp only [Env.get]
    by_cases h2 : t = t'
    · subst h2; simp
    · rw [if_neg h2, if_neg (Ne.symm h2)]

def EnvR (ρ : Rho) (n : Nat) (env : Env) (tmps : Array Value) : Prop := tmps.size = n ∧ ∀ t v, env.get t = some v → ∃ x, tmps[t]? = some x ∧ VR ρ v x

theorem EnvR.mono {ρ ρ' : Rho} (hρ : ρ.le ρ') {n : Nat} {env : Env} {tmps : Array Value} (h : EnvR ρ n env tmps) : EnvR ρ' n env tmps :=
  ⟨h.1, fun t v ht => let ⟨x, hx, r⟩ := h.2 t v ht; ⟨x, hx, r.mono hρ⟩⟩

theorem EnvR.put {ρ : Rho} {n : Nat} {env : Env} {tmps : Array Value} (h : EnvR ρ n env tmps) {t : Nat} {v : V} {x : Value} (ht : t < n) (hv : VR ρ v x) :
    EnvR ρ n (env.put t v) (tmps.setIfInBounds t x) := by
  refine ⟨by simp [h.1], fun t' v' ht' => ?_⟩
  rw [Env.get_put] at ht'
  split at ht'
  · cases ht'
    subst_vars
    have := h.1
    exact ⟨x, by simp [this, ht], hv⟩
  · obtain ⟨y, hy, r⟩ := h.2 t' v' ht'
    refine ⟨y, ?_, r⟩
    rw [Array.getElem?_setIfInBounds, if_neg (by omega)]; exact hy

/-- An operand's value. -/
def evX (env : Env) : Operand → Option V
  | .tmp t => env.get t
  | .const v => cst v
  | .func f => some (.fn f [] [])
  | .global _ => none

theorem evX_rel {ρ : Rho} {n : Nat} {env : Env} {a : Act} (h : EnvR ρ n env a.tmps) {o : Operand} {v : V} (hv : evX env o = some v) : VR ρ v (a.eval o) := by
  cases o with
  | tmp t =>
    obtain ⟨x, hx, r⟩ := h.2 t v hv
    simpa [Act.eval, hx] using r
  | const c => exact cst_rel ρ hv
  | func f => cases hv; exact .fn _ _ _ _ _ .nil .nil
  | global g => cases hv

def evXs (env : Env) : List Operand → Option (List V)
  | [] => some []
  | o :: r => match evX env o, evXs env r with
    | some v, some l => some (v :: l)
    | _, _ => none

theorem evXs_rel {ρ : Rho} {n : Nat} {env : Env} {a : Act} (h : EnvR ρ n env a.tmps) : ∀ {os : List Operand} {l : List V}, evXs env os = some l → VRs ρ l (os.map a.eval)
  | [], l, hl => by simp [evXs] at hl; subst hl; exact .nil
  | o :: r, l, hl => by
    simp only [evXs] at hl
    split at hl
    · rename_i v l' hv hl'
      cases hl
      exact .cons _ _ _ _ (evX_rel h hv) (evXs_rel h hl')
    · cases hl

/-! reading memory -/

def cell (m : Mem) (b off : Nat) : Option V := (m.rd b).bind (·[off]?)
def cells (m : Mem) (b off n : Nat) : Option (List V) :=
  match m.rd b with
  | some c => if off + n ≤ c.length then some ((c.drop off).take n) else none
  | none => none

theorem rd_rel {ρ : Rho} {m : Mem} {w : World} (hm : MR ρ m w) {b : Nat} {e : Ext} {c : List V} (hb : ρ b = some e) (hc : m.rd b = some c) :
    ∃ C el fz, w.heap[e.cb]? = some (.cells C el fz) ∧ CellsR ρ e c C := by
  have := hm.blk b e hb
  unfold Mem.rd at hc
  cases hg : m.get b with
  | none => rw [hg] at this; exact this.elim
  | some x =>
    rw [hg] at this hc
    cases x with
    | cells c' => simp [Blk.rd] at hc; subst hc; obtain ⟨C, el, fz, h1, h2, _⟩ := this; exact ⟨C, el, fz, h1, h2⟩
    | ro c' => simp [Blk.rd] at hc; subst hc; obtain ⟨C, el, fz, h1, h2, _⟩ := this; exact ⟨C, el, fz, h1, h2⟩
    | map _ => simp [Blk.rd] at hc
    | dead => simp [Blk.rd] at hc

theorem cell_rel {ρ : Rho} {m : Mem} {w : World} (hm : MR ρ m w) {b off : Nat} {e : Ext} {v : V} (hb : ρ b = some e) (hv : cell m b off = some v) :
    ∃ x, w.cell? ⟨e.cb, e.base + off, none⟩ = some x ∧ VR ρ v x := by
  unfold cell at hv
  cases hc : m.rd b with
  | none => simp [hc] at hv
  | some c =>
    simp only [hc, Option.bind_some] at hv
    obtain ⟨C, el, fz, h1, h2⟩ := rd_rel hm hb hc
    obtain ⟨x, hx, r⟩ := h2.2.2.2 off v hv
    exact ⟨x, by simp [World.cell?, h1, hx], r⟩

theorem Addr.add_none (b o n : Nat) : Addr.add ⟨b, o, none⟩ n = ⟨b, o + n, none⟩ := by
  unfold Addr.add; split
  · subst_vars; rfl
  · rfl

/-- A stretch of cells, loaded. -/
theorem cells_rel {P : Program} {ρ : Rho} {m : Mem} {w : World} (hm : MR ρ m w) {b off n : Nat} {e : Ext} {l : List V} (hb : ρ b = some e) (hv : cells m b off n = some l) :
    ∃ xs : List Value, xs.length = n ∧ VRs ρ l xs ∧ (loadCells ⟨e.cb, e.base + off, none⟩ n).run P w = .ok xs.toArray w ∧
      ∀ j x, xs[j]? = some x → w.cell? ⟨e.cb, e.base + off + j, none⟩ = some x := by
  unfold cells at hv
  cases hc : m.rd b with
  | none => simp [hc] at hv
  | some c =>
    simp only [hc] at hv
    split at hv
    case isFalse => cases hv
    rename_i hle
    cases hv
    obtain ⟨C, el, fz, h1, h2⟩ := rd_rel hm hb hc
    have hlen : c.length = e.n := h2.1
    have hsz : e.base + e.ext ≤ C.size := h2.2.2.1
    have hn := h2.2.1
    let xs : List Value := (C.toList.drop (e.base + off)).take n
    have hxl : xs.length = n := by simp [xs]; omega
    have hget : ∀ j, j < n → xs[j]? = C[e.base + off + j]? := fun j hj => by simp [xs, List.getElem?_drop, hj]
    have hcell : ∀ j x, xs[j]? = some x → w.cell? ⟨e.cb, e.base + off + j, none⟩ = some x := fun j x hx => by
      have hj : j < n := by rw [← hxl]; exact (List.getElem?_eq_some_iff.1 hx).1
      rw [hget j hj] at hx
      simp [World.cell?, h1, hx]
    refine ⟨xs, hxl, VRs.of_get (by simp [hxl]; omega) ?_, ?_, hcell⟩
    · intro i v hi
      rw [List.getElem?_take] at hi
      split at hi
      · rename_i hin
        rw [List.getElem?_drop] at hi
        obtain ⟨x, hx, r⟩ := h2.2.2.2 _ v hi
        exact ⟨x, by rw [hget i hin, ← hx]; congr 1; omega, r⟩
      · cases hi
    · have := run_loadCells_list (P := P) w ⟨e.cb, e.base + off, none⟩ xs (fun j v hv => by rw [Addr.add_none]; exact hcell j v hv)
      rwa [hxl] at this

/-! types -/

def aggT (P : Program) (t : TypeId) : Option Bool :=
  match P.underlying t with
  | some (.struct _) | some (.array _ _) => some true
  | some _ => some false
  | none => none
def szT (P : Program) (t : TypeId) : Option Nat := (P.info? t).map (·.size)

theorem run_sz {P : Program} {t : TypeId} {n : Nat} (h : szT P t = some n) (w : World) : (Go.sizeOf t).run P w = .ok n w := by
  unfold szT at h
  cases hi : P.info? t with
  | none => simp [hi] at h
  | some i => simp [hi] at h; simp [Go.sizeOf, typeInfo, hi, h]

theorem run_aggT {P : Program} {t : TypeId} {b : Bool} (h : aggT P t = some b) (w : World) : (isAgg t).run P w = .ok b w := by
  unfold aggT at h
  unfold isAgg
  split at h
  · cases h; rename_i hu; simp [run_underlying hu]
  · cases h; rename_i hu; simp [run_underlying hu]
  · cases h; rename_i d h1 h2 hu
    simp only [Sem.run_bind, run_underlying hu, Result.andThen_ok]
    cases d <;> first | rfl | (exfalso; first | exact h1 _ rfl | exact h2 _ _ rfl)
  · cases h

/-! part of a struct, of an array -/
def partV (P : Program) (t : TypeId) (l : List V) (off : Nat) : Option V :=
  match aggT P t, szT P t with
  | some true, some n => some (.agg ((l.drop off).take n))
  | some false, some _ => l[off]?
  | _, _ => none

theorem part_rel {P : Program} {ρ : Rho} {t : TypeId} {l : List V} {xs : Array Value} {off : Nat} {v : V} (hl : VRs ρ l xs.toList) (h : partV P t l off = some v) (w : World) :
    ∃ x, (part t xs off).run P w = .ok x w ∧ VR ρ v x := by
  unfold partV at h
  split at h
  · rename_i n ha hs
    cases h
    refine ⟨.agg (xs.extract off (off + n)), by simp [part, run_aggT ha, run_sz hs], .agg _ _ ?_⟩
    have := (hl.drop off).take n
    simpa [Array.toList_extract, List.take_drop, Nat.add_comm] using this
  · rename_i n ha hs
    obtain ⟨x, hx, r⟩ := hl.get h
    have hx' : xs[off]? = some x := by simpa using hx
    exact ⟨x, by simp [part, run_aggT ha, hx'], r⟩
  · cases h

/-! integers, strings, bools -/

def evInt (op : BinOp) (k : IntKind) (x y : Int) : Option V :=
  match op with
  | .add => some (.int k (k.wrap (x + y)))
  | .sub => some (.int k (k.wrap (x - y)))
  | .mul => some (.int k (k.wrap (x * y)))
  | .quo => if y = 0 then none else some (.int k (k.wrap (x.tdiv y)))
  | .rem => if y = 0 then none else some (.int k (x.tmod y))
  | .and => some (.int k (k.wrap (BitVec.ofInt k.bits x &&& BitVec.ofInt k.bits y).toNat))
  | .or => some (.int k (k.wrap (BitVec.ofInt k.bits x ||| BitVec.ofInt k.bits y).toNat))
  | .xor => some (.int k (k.wrap (BitVec.ofInt k.bits x ^^^ BitVec.ofInt k.bits y).toNat))
  | .andNot => some (.int k (k.wrap (BitVec.ofInt k.bits x &&& ~~~ BitVec.ofInt k.bits y).toNat))
  | .eql => some (.bool (x == y))
  | .neq => some (.bool (x != y))
  | .lss => some (.bool (decide (x < y)))
  | .leq => some (.bool (decide (x ≤ y)))
  | .gtr => some (.bool (decide (x > y)))
  | .geq => some (.bool (decide (x ≥ y)))
  | _ => none

def evShift (op : BinOp) (k : IntKind) (x y : Int) : Option V :=
  if y < 0 then none else
  match op with
  | .shl => some (.int k (k.wrap (x * 2 ^ (min y.toNat k.bits))))
  | .shr => some (.int k (x.fdiv (2 ^ (min y.toNat k.bits))))
  | _ => none

def evStr (op : BinOp) (x y : List UInt8) : Option V :=
  match op with
  | .add => if x.length + y.length ≤ 9223372036854775807 then some (.str (x ++ y)) else none
  | .eql => some (.bool (x == y))
  | .neq => some (.bool (!(x == y)))
  | .lss => some (.bool (Op.bytesLess x y))
  | .leq => some (.bool (Op.bytesLess x y || x == y))
  | .gtr => some (.bool (!(Op.bytesLess x y || x == y)))
  | .geq => some (.bool (!(Op.bytesLess x y)))
  | _ => none

/-- '==' of two values that are no numbers and no strings. -/
def evEq (P : Program) (t : TypeId) (x y : V) : Option Bool :=
  match P.underlying t, x, y with
  | some .bool, .bool a, .bool b => some (a == b)
  | some (.pointer _), .nilp, .nilp => some true
  | some (.pointer _), .nilp, .ptr _ _ => some false
  | some (.pointer _), .ptr _ _, .nilp => some false
  | some (.slice _), .nils, .nils => some true
  | some (.slice _), .nils, .slc _ _ _ _ _ => some false
  | some (.slice _), .slc _ _ _ _ _, .nils => some false
  | some (.map _ _), .nilm, .nilm => some true
  | some (.map _ _), .nilm, .map _ => some false
  | some (.map _ _), .map _, .nilm => some false
  | some (.func _ _ _), .nilf, .nilf => some true
  | some (.func _ _ _), .nilf, .fn _ _ _ => some false
  | some (.func _ _ _), .fn _ _ _, .nilf => some false
  | some (.pointer el), .ptr b o, .ptr b' o' => if b = b' ∧ ((P.info? el).map fun i => decide (i.size = 0)) = some false then some (o == o') else none
  | _, _, _ => none

/-- What is assumed of '==' at types of several cells: the fields are compared one by one. -/
inductive Lf where
  | b | i | s
  deriving DecidableEq
abbrev EqT := TypeId → Option (List Lf)

def V.flat : V → Option (List V)
  | .agg l => some l
  | _ => none

/-- May two cells be compared by what they are? -/
def eqCell : Lf → V → V → Option Bool
  | .i, .int k a, .int k' b => if k = k' then some (a == b) else none
  | .s, .str a, .str b => some (a == b)
  | .b, .bool a, .bool b => some (a == b)
  | _, _, _ => none
def eqCells : List Lf → List V → List V → Option Bool
  | [], [], [] => some true
  | t :: ts, x :: xs, y :: ys => match eqCell t x y, eqCells ts xs ys with
    | some a, some b => some (a && b)
    | _, _ => none
  | _, _, _ => none

def EqOk (P : Program) (E : EqT) : Prop :=
  ∀ t ks, E t = some ks → ∀ (ρ : Rho) (l k : List V) (xs ys : Array Value) (b : Bool) (w : World) (x y : Operand) (op : BinOp), (op = .eql ∨ op = .neq) → VRs ρ l xs.toList → VRs ρ k ys.toList → eqCells ks l k = some b →
    (do eqGuard op t x y (.agg xs) (.agg ys); binOp op t (.agg xs) (.agg ys) : Sem Value).run P w = .ok (.bool (if op = .eql then b else !b)) w

def evBin (P : Program) (E : EqT) (op : BinOp) (t : TypeId) (x y : V) : Option V :=
  match x, y with
  | .int k a, .int k' b =>
    match op with
    | .shl | .shr => evShift op k a b
    | _ => if k = k' then evInt op k a b else none
  | .str a, .str b => evStr op a b
  | .agg l, .agg k =>
    match E t with
    | some ks => match op with
      | .eql => (eqCells ks l k).map .bool
      | .neq => (eqCells ks l k).map fun b => .bool !b
      | _ => none
    | none => none
  | x, y =>
    match op with
    | .eql => (evEq P t x y).map .bool
    | .neq => (evEq P t x y).map fun b => .bool !b
    | _ => none

def V.lit : V → Value
  | .int k n => .int k n
  | .bool b => .bool b
  | .str s => .string ⟨s.toArray⟩
  | _ => undef

theorem evInt_rel {P : Program} {op : BinOp} {k : IntKind} {a b : Int} {v : V} (t : TypeId) (h : evInt op k a b = some v) (w : World) (ρ : Rho) :
    (binOp op t (.int k a) (.int k b)).run P w = .ok v.lit w ∧ VR ρ v v.lit := by
  unfold evInt at h
  split at h
  case h_4 =>
    split at h
    · cases h
    · cases h; rename_i hy; exact ⟨by simp [binOp, Op.intDiv, hy, V.lit], .int _ _⟩
  case h_5 =>
    split at h
    · cases h
    · cases h; rename_i hy; exact ⟨by simp [binOp, Op.intDiv, hy, V.lit], .int _ _⟩
  case h_16 => cases h
  all_goals (cases h; refine ⟨by simp [binOp, Op.intCmp, Op.intArith, Op.intBits, V.lit], ?_⟩; constructor)

theorem evShift_rel {P : Program} {op : BinOp} {k k' : IntKind} {a b : Int} {v : V} (t : TypeId) (h : evShift op k a b = some v) (w : World) (ρ : Rho) :
    (binOp op t (.int k a) (.int k' b)).run P w = .ok v.lit w ∧ VR ρ v v.lit := by
  unfold evShift at h
  split at h
  · cases h
  · rename_i hb
    split at h
    · cases h; exact ⟨by simp [binOp, Op.shift, hb, V.lit], .int _ _⟩
    · cases h; exact ⟨by simp [binOp, Op.shift, hb, V.lit], .int _ _⟩
    · cases h

theorem ba_append (x y : List UInt8) : (⟨x.toArray⟩ : ByteArray) ++ ⟨y.toArray⟩ = ⟨(x ++ y).toArray⟩ := by
  apply ByteArray.ext
  simp

theorem evStr_rel {P : Program} {op : BinOp} {a b : List UInt8} {v : V} (t : TypeId) (h : evStr op a b = some v) (w : World) (ρ : Rho) :
    (binOp op t (.string ⟨a.toArray⟩) (.string ⟨b.toArray⟩)).run P w = .ok v.lit w ∧ VR ρ v v.lit := by
  unfold evStr at h
  split at h
  case h_1 =>
    split at h
    · cases h
      rename_i hl
      have h1 : (⟨a.toArray⟩ : ByteArray).size = a.length := by simp [ByteArray.size]
      have h2 : (⟨b.toArray⟩ : ByteArray).size = b.length := by simp [ByteArray.size]
      have : ¬ (9223372036854775807 < ((a.length + b.length : Nat) : Int)) := by omega
      refine ⟨?_, .str _⟩
      simp only [binOp, Op.stringOp, h1, h2, IntKind.max_i64, gt_iff_lt, this, if_false, Sem.run_pure, ba_append, V.lit]
    · cases h
  case h_8 => cases h
  all_goals (cases h; refine ⟨by simp [binOp, Op.stringOp, V.lit], ?_⟩; constructor)

theorem eq_of_equalIn {P : Program} {t : TypeId} {xv yv : Value} {b : Bool} {w : World} {X Y : Operand} (hg : ∀ op, eqGuard op t X Y xv yv = pure ())
    (he : binOp .eql t xv yv = (do pure (.bool (← Op.equal t xv yv)))) (hn : binOp .neq t xv yv = (do pure (.bool (!(← Op.equal t xv yv)))))
    (h : ∀ d, (Op.equalIn (d + 1) t xv yv).run P w = .ok b w) :
    (do eqGuard .eql t X Y xv yv; binOp .eql t xv yv : Sem Value).run P w = .ok (.bool b) w ∧ (do eqGuard .neq t X Y xv yv; binOp .neq t xv yv : Sem Value).run P w = .ok (.bool !b) w := by
  have h' : (Op.equal t xv yv).run P w = .ok b w := h 9999
  constructor
  · rw [hg, pure_bind, he]
    simp [h']
  · rw [hg, pure_bind, hn]
    simp [h']

theorem evEq_rel {P : Program} {t : TypeId} {x y : V} {b : Bool} {ρ : Rho} {xv yv : Value} (h : evEq P t x y = some b) (hx : VR ρ x xv) (hy : VR ρ y yv) (w : World) (X Y : Operand) :
    (do eqGuard .eql t X Y xv yv; binOp .eql t xv yv : Sem Value).run P w = .ok (.bool b) w ∧ (do eqGuard .neq t X Y xv yv; binOp .neq t xv yv : Sem Value).run P w = .ok (.bool !b) w := by
  unfold evEq at h
  split at h
  case h_15 => cases h
  case h_14 =>
    rename_i el b1 o b2 o' hu
    split at h
    case isFalse => cases h
    rename_i hc
    obtain ⟨rfl, hi⟩ := hc
    cases h
    obtain ⟨i, hinfo, hsz⟩ := Option.map_eq_some_iff.1 hi
    simp only [decide_eq_false_iff_not] at hsz
    cases hx with
    | ptr _ _ e he => cases hy with
      | ptr _ _ e' he' =>
        rw [he] at he'; cases he'
        refine eq_of_equalIn (fun op => by cases op <;> rfl) rfl rfl (fun d => ?_)
        have hab : ((⟨e.cb, e.base + o, none⟩ : Addr) == ⟨e.cb, e.base + o', none⟩) = (o == o') := by
          by_cases h : o = o'
          · subst h; simp
          · have h1 : (o == o') = false := by simpa using h
            have h2 : ((⟨e.cb, e.base + o, none⟩ : Addr) == ⟨e.cb, e.base + o', none⟩) = false := by
              rw [beq_eq_false_iff_ne]; intro q
              injection q with _ q2 _
              omega
            rw [h1, h2]
        have hso : (Go.sizeOf el).run P w = .ok i.size w := by simp [Go.sizeOf, typeInfo, hinfo]
        simp only [Op.equalIn, Sem.run_bind, run_underlying hu, Result.andThen_ok]
        simp [hso, hsz, sameAddr, hab]
  all_goals
    rename_i hu
    cases h
    cases hx
    all_goals
      cases hy
      all_goals
        refine eq_of_equalIn (fun op => by cases op <;> rfl) rfl rfl (fun d => ?_)
        simp [Op.equalIn, run_underlying hu]

theorem evBin_rel {P : Program} {E : EqT} (hE : EqOk P E) {op : BinOp} {t : TypeId} {x y : V} {v : V} {ρ : Rho} {xv yv : Value} (h : evBin P E op t x y = some v) (hx : VR ρ x xv) (hy : VR ρ y yv)
    (w : World) (X Y : Operand) : ∃ r, (do eqGuard op t X Y xv yv; binOp op t xv yv : Sem Value).run P w = .ok r w ∧ VR ρ v r := by
  unfold evBin at h
  split at h
  · rename_i k a k' b
    cases hx; cases hy
    have hg : eqGuard op t X Y (.int k a) (.int k' b) = pure () := by cases op <;> rfl
    rw [hg, pure_bind]
    split at h
    · exact ⟨_, evShift_rel (P := P) (k' := k') t h w ρ⟩
    · exact ⟨_, evShift_rel (P := P) (k' := k') t h w ρ⟩
    · split at h
      · rename_i hk; subst hk
        exact ⟨_, evInt_rel (P := P) t h w ρ⟩
      · cases h
  · rename_i a b
    cases hx; cases hy
    have hg : eqGuard op t X Y (.string ⟨a.toArray⟩) (.string ⟨b.toArray⟩) = pure () := by cases op <;> rfl
    rw [hg, pure_bind]
    exact ⟨_, evStr_rel (P := P) t h w ρ⟩
  · rename_i l k
    split at h
    · rename_i ks hc
      cases hx with
      | agg _ xs hxs => cases hy with
        | agg _ ys hys =>
          split at h
          · cases hb : eqCells ks l k with
            | none => simp [hb] at h
            | some b => simp [hb] at h; subst h; exact ⟨_, hE t ks hc ρ l k xs ys b w X Y .eql (.inl rfl) hxs hys hb, .bool _⟩
          · cases hb : eqCells ks l k with
            | none => simp [hb] at h
            | some b => simp [hb] at h; subst h; exact ⟨_, hE t ks hc ρ l k xs ys b w X Y .neq (.inr rfl) hxs hys hb, by simp; exact .bool _⟩
          · cases h
    · cases h
  · split at h
    · cases hb : evEq P t x y with
      | none => simp [hb] at h
      | some b => simp [hb] at h; subst h; exact ⟨_, (evEq_rel hb hx hy w X Y).1, .bool _⟩
    · cases hb : evEq P t x y with
      | none => simp [hb] at h
      | some b => simp [hb] at h; subst h; exact ⟨_, (evEq_rel hb hx hy w X Y).2, .bool _⟩
    · cases h

def evUn (op : UnOp) : V → Option V
  | .int k n => match op with
    | .neg => some (.int k (k.wrap (0 - n)))
    | .xor => evInt .xor k (if k.signed then -1 else k.max) n
    | _ => none
  | .bool b => match op with
    | .not => some (.bool !b)
    | _ => none
  | _ => none

theorem evUn_rel {P : Program} {op : UnOp} {x : V} {v : V} {ρ : Rho} {xv : Value} (h : evUn op x = some v) (hx : VR ρ x xv) (w : World) : (Op.unary op xv).run P w = .ok v.lit w ∧ VR ρ v v.lit := by
  unfold evUn at h
  split at h
  · cases hx
    split at h
    · cases h; exact ⟨by simp [Op.unary, Op.intArith, V.lit], .int _ _⟩
    · simp only [evInt] at h; cases h; exact ⟨by simp [Op.unary, Op.intBits, V.lit], .int _ _⟩
    · cases h
  · cases hx
    split at h
    · cases h; exact ⟨by simp [Op.unary, V.lit], .bool _⟩
    · cases h
  · cases h

end Sim
