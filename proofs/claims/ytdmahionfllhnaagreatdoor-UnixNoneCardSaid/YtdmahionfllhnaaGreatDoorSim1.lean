/-
  Lemmas of this claim's own: abstract values and memory, and how they stand to the model's worlds. No program in sight; no condition.
-/
import Derived.Calls
import Derived.Laws.Rows
import Derived.Laws.Append
import Derived.Laws.Slices
namespace Sim
open Go

inductive V where
  | bool (b : Bool)
  | int (k : IntKind) (n : Int)
  | str (s : List UInt8)
  | ptr (b off : Nat)
  | nilp
  | slc (b off len cap sz : Nat)
  | nils
  | map (r : Nat)
  | nilm
  | fn (f : Nat) (first captured : List V)
  | nilf
  | iface (t : Nat) (v : V)
  | nili
  | agg (l : List V)
  | tup (l : List V)
  deriving Inhabited

/-- May it stand in one cell? -/
def V.one : V → Bool
  | .agg _ | .tup _ => false
  | _ => true

def V.und : V := .tup []

def V.cells : V → List V
  | .agg l => l
  | v => [v]

structure Ext where
  cb : Nat
  base : Nat
  n : Nat
  ext : Nat

abbrev Rho := Nat → Option Ext

def Rho.le (r s : Rho) : Prop := ∀ b e, r b = some e → s b = some e
theorem Rho.le_refl (r : Rho) : r.le r := fun _ _ h => h
theorem Rho.le_trans {r s t : Rho} (h : r.le s) (k : s.le t) : r.le t := fun b e x => k b e (h b e x)

mutual
inductive VR (ρ : Rho) : V → Value → Prop where
  | bool (b : Bool) : VR ρ (.bool b) (.bool b)
  | int (k : IntKind) (n : Int) : VR ρ (.int k n) (.int k n)
  | str (s : List UInt8) : VR ρ (.str s) (.string ⟨s.toArray⟩)
  | ptr (b off : Nat) (e : Ext) (h : ρ b = some e) : VR ρ (.ptr b off) (.pointer (some ⟨e.cb, e.base + off, none⟩))
  | nilp : VR ρ .nilp (.pointer none)
  | slc (b off len cap cap' sz : Nat) (e : Ext) (h : ρ b = some e) (hl : len ≤ cap) (hc : cap ≤ cap') (hn : off + cap * sz ≤ e.n)
      (hx : cap < cap' → off + cap * sz = e.n) (he : off + cap' * sz ≤ e.ext) : VR ρ (.slc b off len cap sz) (.slice (some ⟨e.cb, e.base + off, none⟩) len cap')
  | slc0 (b off sz : Nat) (e : Ext) (a : Addr) (h : ρ b = some e) (hn : off ≤ e.n) : VR ρ (.slc b off 0 0 sz) (.slice (some a) 0 0)
  | nils : VR ρ .nils (.slice none 0 0)
  | map (r : Nat) (e : Ext) (h : ρ r = some e) : VR ρ (.map r) (.map (some e.cb))
  | nilm : VR ρ .nilm (.map none)
  | fn (g : Nat) (first captured : List V) (f c : Array Value) (hf : VRs ρ first f.toList) (hc : VRs ρ captured c.toList) : VR ρ (.fn g first captured) (.func (.func g) f c)
  | nilf : VR ρ .nilf .nilFunc
  | iface (t : Nat) (v : V) (x : Value) (h : VR ρ v x) : VR ρ (.iface t v) (.iface t x)
  | nili : VR ρ .nili .nilIface
  | agg (l : List V) (xs : Array Value) (h : VRs ρ l xs.toList) : VR ρ (.agg l) (.agg xs)
  | tup (l : List V) (xs : Array Value) (h : VRs ρ l xs.toList) : VR ρ (.tup l) (.tuple xs)
inductive VRs (ρ : Rho) : List V → List Value → Prop where
  | nil : VRs ρ [] []
  | cons (v : V) (x : Value) (l : List V) (xs : List Value) (h : VR ρ v x) (t : VRs ρ l xs) : VRs ρ (v :: l) (x :: xs)
end

mutual
theorem VR.mono {ρ ρ' : Rho} (hρ : ρ.le ρ') : ∀ {v : V} {x : Value}, VR ρ v x → VR ρ' v x
  | _, _, .bool b => .bool b
  | _, _, .int k n => .int k n
  | _, _, .str s => .str s
  | _, _, .ptr b off e h => .ptr b off e (hρ _ _ h)
  | _, _, .nilp => .nilp
  | _, _, .slc b off len cap cap' sz e h hl hc hn hx he => .slc b off len cap cap' sz e (hρ _ _ h) hl hc hn hx he
  | _, _, .slc0 b off sz e a h hn => .slc0 b off sz e a (hρ _ _ h) hn
  | _, _, .nils => .nils
  | _, _, .map r e h => .map r e (hρ _ _ h)
  | _, _, .nilm => .nilm
  | _, _, .fn g first captured f c hf hc => .fn g first captured f c (VRs.mono hρ hf) (VRs.mono hρ hc)
  | _, _, .nilf => .nilf
  | _, _, .iface t v x h => .iface t v x (VR.mono hρ h)
  | _, _, .nili => .nili
  | _, _, .agg l xs h => .agg l xs (VRs.mono hρ h)
  | _, _, .tup l xs h => .tup l xs (VRs.mono hρ h)
theorem VRs.mono {ρ ρ' : Rho} (hρ : ρ.le ρ') : ∀ {l : List V} {xs : List Value}, VRs ρ l xs → VRs ρ' l xs
  | _, _, .nil => .nil
  | _, _, .cons v x l xs h t => .cons v x l xs (VR.mono hρ h) (VRs.mono hρ t)
end

theorem VRs.length {ρ : Rho} : ∀ {l : List V} {xs : List Value}, VRs ρ l xs → l.length = xs.length
  | _, _, .nil => rfl
  | _, _, .cons _ _ _ _ _ t => by simp [VRs.length t]

theorem VRs.get {ρ : Rho} : ∀ {l : List V} {xs : List Value}, VRs ρ l xs → ∀ {i : Nat} {v : V}, l[i]? = some v → ∃ x, xs[i]? = some x ∧ VR ρ v x
  | _, _, .nil, i, v, h => by simp at h
  | _, _, .cons v x l xs hv t, 0, u, h => by simp at h; subst h; exact ⟨x, by simp, hv⟩
  | _, _, .cons v x l xs hv t, i + 1, u, h => by simp at h; obtain ⟨y, hy, r⟩ := VRs.get t h; exact ⟨y, by simpa using hy, r⟩

theorem VRs.of_get {ρ : Rho} : ∀ {l : List V} {xs : List Value}, l.length = xs.length → (∀ (i : Nat) (v : V), l[i]? = some v → ∃ x, xs[i]? = some x ∧ VR ρ v x) → VRs ρ l xs
  | [], [], _, _ => .nil
  | [], _ :: _, h, _ => by simp at h
  | _ :: _, [], h, _ => by simp at h
  | v :: l, x :: xs, h, g => by
    obtain ⟨y, hy, r⟩ := g 0 v (by simp)
    simp at hy; subst hy
    exact .cons _ _ _ _ r (VRs.of_get (by simpa using h) (fun i u hu => by obtain ⟨y, hy, r⟩ := g (i + 1) u (by simpa using hu); exact ⟨y, by simpa using hy, r⟩))

theorem VRs.append {ρ : Rho} : ∀ {l m : List V} {xs ys : List Value}, VRs ρ l xs → VRs ρ m ys → VRs ρ (l ++ m) (xs ++ ys)
  | _, _, _, _, .nil, h => h
  | _, _, _, _, .cons v x l xs hv t, h => .cons v x _ _ hv (VRs.append t h)

theorem VRs.take {ρ : Rho} {l : List V} {xs : List Value} (h : VRs ρ l xs) (n : Nat) : VRs ρ (l.take n) (xs.take n) := by
  refine VRs.of_get (by simp [h.length]) fun i v hv => ?_
  rw [List.getElem?_take] at hv
  split at hv
  · obtain ⟨x, hx, r⟩ := h.get hv
    exact ⟨x, by rw [List.getElem?_take, if_pos (by assumption)]; exact hx, r⟩
  · cases hv

theorem VRs.drop {ρ : Rho} {l : List V} {xs : List Value} (h : VRs ρ l xs) (n : Nat) : VRs ρ (l.drop n) (xs.drop n) := by
  refine VRs.of_get (by simp [h.length]) fun i v hv => ?_
  rw [List.getElem?_drop] at hv
  obtain ⟨x, hx, r⟩ := h.get hv
  exact ⟨x, by rw [List.getElem?_drop]; exact hx, r⟩

theorem VRs.replicate {ρ : Rho} {v : V} {x : Value} (h : VR ρ v x) (n : Nat) : VRs ρ (List.replicate n v) (List.replicate n x) := by
  induction n with
  | zero => exact .nil
  | succ n ih => exact .cons _ _ _ _ h ih

/-- Constants of the program's text. -/
def cst : Value → Option V
  | .bool b => some (.bool b)
  | .int k n => some (.int k n)
  | .string s => some (.str s.data.toList)
  | .pointer none => some .nilp
  | .slice none 0 0 => some .nils
  | .map none => some .nilm
  | .nilFunc => some .nilf
  | .nilIface => some .nili
  | .tuple vs => if vs.isEmpty then some .und else none
  | _ => none

theorem str_eta (s : ByteArray) : (⟨s.data.toList.toArray⟩ : ByteArray) = s := by cases s; simp

theorem cst_rel (ρ : Rho) {x : Value} {v : V} (h : cst x = some v) : VR ρ v x := by
  unfold cst at h
  split at h
  case h_3 s => cases h; have := VR.str (ρ := ρ) s.data.toList; rwa [str_eta] at this
  case h_9 vs =>
    split at h
    · cases h
      have : vs = #[] := by simpa using ‹vs.isEmpty = true›
      subst this
      exact .tup _ _ .nil
    · cases h
  case h_10 => cases h
  all_goals (cases h; constructor)

def csts : List Value → Option (List V)
  | [] => some []
  | x :: xs => match cst x, csts xs with
    | some v, some l => some (v :: l)
    | _, _ => none

theorem csts_rel (ρ : Rho) : ∀ {xs : List Value} {l : List V}, csts xs = some l → VRs ρ l xs
  | [], l, h => by simp [csts] at h; subst h; exact .nil
  | x :: xs, l, h => by
    simp only [csts] at h
    split at h
    · rename_i v l' hv hl
      cases h
      exact .cons _ _ _ _ (cst_rel ρ hv) (csts_rel ρ hl)
    · cases h

/-! memory -/

inductive Blk where
  | cells (c : List V)
  | ro (c : List V)
  | map (es : List (V × V))
  | dead
  deriving Inhabited

/-- What is known of a block's make: its elements' type; of a variable's own block its size too. -/
structure Tag where
  b : Nat
  el : TypeId
  sz : Option Nat
  deriving DecidableEq

structure Mem where
  l : List Blk
  ty : List Tag := []
  gl : List (Nat × Nat) := []

def Mem.get (m : Mem) (b : Nat) : Option Blk := m.l[b]?
def Mem.size (m : Mem) : Nat := m.l.length
def Mem.set (m : Mem) (b : Nat) (x : Blk) : Mem := ⟨m.l.set b x, m.ty, m.gl⟩
def Mem.push (m : Mem) (x : Blk) : Mem := ⟨m.l ++ [x], m.ty, m.gl⟩
def Mem.tag (m : Mem) (t : Tag) : Mem := ⟨m.l, t :: m.ty, m.gl⟩
def Mem.tagged (m : Mem) (t : Tag) : Bool := m.ty.contains t

theorem Mem.tagged_iff {m : Mem} {t : Tag} : m.tagged t = true ↔ t ∈ m.ty := by simp [Mem.tagged]
@[simp] theorem Mem.get_tag (m : Mem) (t : Tag) (b : Nat) : (m.tag t).get b = m.get b := rfl
@[simp] theorem Mem.size_tag (m : Mem) (t : Tag) : (m.tag t).size = m.size := rfl
@[simp] theorem Mem.gl_set (m : Mem) (b : Nat) (x : Blk) : (m.set b x).gl = m.gl := rfl
@[simp] theorem Mem.gl_push (m : Mem) (x : Blk) : (m.push x).gl = m.gl := rfl
@[simp] theorem Mem.gl_tag (m : Mem) (t : Tag) : (m.tag t).gl = m.gl := rfl
@[simp] theorem Mem.ty_set (m : Mem) (b : Nat) (x : Blk) : (m.set b x).ty = m.ty := rfl
@[simp] theorem Mem.ty_push (m : Mem) (x : Blk) : (m.push x).ty = m.ty := rfl

theorem Mem.get_lt {m : Mem} {b : Nat} {x : Blk} (h : m.get b = some x) : b < m.size := by
  unfold Mem.get at h; unfold Mem.size
  exact (List.getElem?_eq_some_iff.1 h).1

@[simp] theorem Mem.size_set (m : Mem) (b : Nat) (x : Blk) : (m.set b x).size = m.size := by simp [Mem.size, Mem.set]
@[simp] theorem Mem.size_push (m : Mem) (x : Blk) : (m.push x).size = m.size + 1 := by simp [Mem.size, Mem.push]

theorem Mem.get_set_same {m : Mem} {b : Nat} (x : Blk) (h : b < m.size) : (m.set b x).get b = some x := by
  simp only [Mem.get, Mem.set, Mem.size] at *; simp [h]

theorem Mem.get_set_ne (m : Mem) {b c : Nat} (x : Blk) (h : b ≠ c) : (m.set b x).get c = m.get c := by
  simp [Mem.get, Mem.set, h]

theorem Mem.get_push_lt {m : Mem} {b : Nat} (x : Blk) (h : b < m.size) : (m.push x).get b = m.get b := by
  simp [Mem.get, Mem.push, Mem.size] at *; rw [List.getElem?_append_left h]

@[simp] theorem Mem.get_push_new (m : Mem) (x : Blk) : (m.push x).get m.size = some x := by
  simp [Mem.get, Mem.push, Mem.size]

theorem Mem.get_push (m : Mem) (x : Blk) (b : Nat) : (m.push x).get b = if b = m.size then some x else m.get b := by
  by_cases h : b = m.size
  · subst h; simp
  · rw [if_neg h]
    rcases Nat.lt_or_ge b m.size with h' | h'
    · exact Mem.get_push_lt x h'
    · have h2 : m.size < b := by omega
      unfold Mem.get Mem.push; unfold Mem.size at h' h2
      rw [List.getElem?_eq_none (by simp; omega), List.getElem?_eq_none h']

/-- The cells of a block that can be read. -/
def Blk.rd : Blk → Option (List V)
  | .cells c | .ro c => some c
  | _ => none

def Mem.rd (m : Mem) (b : Nat) : Option (List V) := (m.get b).bind Blk.rd

def Mem.wr (m : Mem) (b : Nat) : Option (List V) := match m.get b with | some (.cells c) => some c | _ => none

def Blk.rw : Blk → Bool
  | .cells _ | .map _ => true
  | _ => false

def Blk.live : Blk → Bool
  | .dead => false
  | _ => true

def Mem.isRw (m : Mem) (b : Nat) : Prop := ∃ x, m.get b = some x ∧ x.rw = true
def Mem.isLive (m : Mem) (b : Nat) : Prop := ∃ x, m.get b = some x ∧ x.live = true

inductive ERs (ρ : Rho) : List (V × V) → List MapEntry → Prop where
  | nil : ERs ρ [] []
  | cons (k v : V) (e : MapEntry) (l : List (V × V)) (xs : List MapEntry) (hk : VR ρ k e.key) (hv : VR ρ v e.val) (t : ERs ρ l xs) : ERs ρ ((k, v) :: l) (e :: xs)

theorem ERs.mono {ρ ρ' : Rho} (hρ : ρ.le ρ') : ∀ {l : List (V × V)} {xs : List MapEntry}, ERs ρ l xs → ERs ρ' l xs
  | _, _, .nil => .nil
  | _, _, .cons k v e l xs hk hv t => .cons k v e l xs (hk.mono hρ) (hv.mono hρ) (ERs.mono hρ t)

def CellsR (ρ : Rho) (e : Ext) (c : List V) (C : Array Value) : Prop :=
  c.length = e.n ∧ e.n ≤ e.ext ∧ e.base + e.ext ≤ C.size ∧ ∀ i v, c[i]? = some v → ∃ x, C[e.base + i]? = some x ∧ VR ρ v x

def Warm (e : Ext) (fz : Nat × Nat) : Prop := fz.1 = fz.2 ∨ e.base + e.ext ≤ fz.1
theorem Warm.out {e : Ext} {fz : Nat × Nat} (h : Warm e fz) : ∀ i, e.base ≤ i → i < e.base + e.ext → ¬ (fz.1 ≤ i ∧ i < fz.2) := by
  intro i h1 h2 h3
  rcases h with h | h <;> omega

def BlkR (ρ : Rho) (e : Ext) (w : World) : Option Blk → Prop
  | some (.cells c) => ∃ C el fz, w.heap[e.cb]? = some (.cells C el fz) ∧ CellsR ρ e c C ∧ Warm e fz
  | some (.ro c) => ∃ C el fz, w.heap[e.cb]? = some (.cells C el fz) ∧ CellsR ρ e c C ∧ e.ext = e.n
  | some (.map es) => ∃ E clk, w.heap[e.cb]? = some (.map E clk) ∧ ERs ρ es E.toList ∧ e.base = 0 ∧ e.ext = 1
  | some .dead => True
  | none => False

theorem CellsR.mono {ρ ρ' : Rho} (hρ : ρ.le ρ') {e : Ext} {c : List V} {C : Array Value} (h : CellsR ρ e c C) : CellsR ρ' e c C :=
  ⟨h.1, h.2.1, h.2.2.1, fun i v hv => let ⟨x, hx, r⟩ := h.2.2.2 i v hv; ⟨x, hx, r.mono hρ⟩⟩

theorem BlkR.mono {ρ ρ' : Rho} (hρ : ρ.le ρ') {e : Ext} {w : World} {o : Option Blk} (h : BlkR ρ e w o) : BlkR ρ' e w o := by
  match o, h with
  | some (.cells c), ⟨C, el, fz, h1, h2, h3⟩ => exact ⟨C, el, fz, h1, h2.mono hρ, h3⟩
  | some (.ro c), ⟨C, el, fz, h1, h2, h3⟩ => exact ⟨C, el, fz, h1, h2.mono hρ, h3⟩
  | some (.map es), ⟨E, clk, h1, h2, h3⟩ => exact ⟨E, clk, h1, h2.mono hρ, h3⟩
  | some .dead, _ => trivial

theorem BlkR.of_heap {ρ : Rho} {e : Ext} {w w' : World} {o : Option Blk} (hh : w'.heap[e.cb]? = w.heap[e.cb]?) (h : BlkR ρ e w o) : BlkR ρ e w' o := by
  match o, h with
  | some (.cells c), ⟨C, el, fz, h1, h2⟩ => exact ⟨C, el, fz, hh.trans h1, h2⟩
  | some (.ro c), ⟨C, el, fz, h1, h2⟩ => exact ⟨C, el, fz, hh.trans h1, h2⟩
  | some (.map es), ⟨E, clk, h1, h2⟩ => exact ⟨E, clk, hh.trans h1, h2⟩
  | some .dead, _ => trivial

def Apart (e f : Ext) : Prop := e.cb ≠ f.cb

theorem Apart.symm {e f : Ext} (h : Apart e f) : Apart f e := Ne.symm h

def TagR (e : Ext) (t : Tag) (w : World) : Prop := ∃ C fz, w.heap[e.cb]? = some (.cells C t.el fz) ∧ ∀ s, t.sz = some s → e.base = 0 ∧ C.size = s

structure MR (ρ : Rho) (m : Mem) (w : World) : Prop where
  blk : ∀ b e, ρ b = some e → BlkR ρ e w (m.get b)
  cb : ∀ b e, ρ b = some e → e.cb < w.heap.size
  sep : ∀ b1 b2 e1 e2, ρ b1 = some e1 → ρ b2 = some e2 → b1 ≠ b2 → m.isRw b1 → m.isLive b2 → Apart e1 e2
  ty : ∀ t ∈ m.ty, t.b < m.size ∧ ∀ e, ρ t.b = some e → TagR e t w
  gl : ∀ p ∈ m.gl, ∃ e, ρ p.1 = some e ∧ e.cb = p.2 ∧ e.base = 0

theorem MR.dom {ρ : Rho} {m : Mem} {w : World} (h : MR ρ m w) {b : Nat} {e : Ext} (hb : ρ b = some e) : b < m.size := by
  have := h.blk b e hb
  cases hg : m.get b with
  | none => rw [hg] at this; exact this.elim
  | some x => exact Mem.get_lt hg

def Own (ρ : Rho) (m : Mem) (cb : Nat) : Prop := ∃ b e, ρ b = some e ∧ e.cb = cb ∧ m.isRw b

/-- From one pair of states to the next. -/
structure Nxt (ρ : Rho) (m : Mem) (w : World) (ρ' : Rho) (m' : Mem) (w' : World) : Prop where
  mr : MR ρ' m' w'
  old : ∀ b, b < m.size → ρ' b = ρ b
  msize : m.size ≤ m'.size
  os : w'.os = w.os
  tape : w'.tape = w.tape
  output : w'.output = w.output
  size : w.heap.size ≤ w'.heap.size
  frame : ∀ cb, cb < w.heap.size → ¬ Own ρ m cb → w'.heap[cb]? = w.heap[cb]?
  own : ∀ cb, cb < w.heap.size → Own ρ' m' cb → Own ρ m cb

theorem Nxt.le {ρ : Rho} {m : Mem} {w : World} {ρ' : Rho} {m' : Mem} {w' : World} (hm : MR ρ m w) (h : Nxt ρ m w ρ' m' w') : ρ.le ρ' :=
  fun b _ hb => (h.old b (hm.dom hb)).trans hb

theorem Nxt.refl {ρ : Rho} {m : Mem} {w : World} (hm : MR ρ m w) : Nxt ρ m w ρ m w :=
  ⟨hm, fun _ _ => rfl, Nat.le_refl _, rfl, rfl, rfl, Nat.le_refl _, fun _ _ _ => rfl, fun _ _ h => h⟩

theorem Nxt.trans {ρ : Rho} {m : Mem} {w : World} {ρ1 : Rho} {m1 : Mem} {w1 : World} {ρ2 : Rho} {m2 : Mem} {w2 : World}
    (h : Nxt ρ m w ρ1 m1 w1) (k : Nxt ρ1 m1 w1 ρ2 m2 w2) : Nxt ρ m w ρ2 m2 w2 := {
  mr := k.mr
  old := fun b hb => (k.old b (Nat.lt_of_lt_of_le hb h.msize)).trans (h.old b hb)
  msize := Nat.le_trans h.msize k.msize
  os := k.os.trans h.os
  tape := k.tape.trans h.tape
  output := k.output.trans h.output
  size := Nat.le_trans h.size k.size
  frame := fun cb hcb hn => (k.frame cb (Nat.lt_of_lt_of_le hcb h.size) (fun ho => hn (h.own cb hcb ho))).trans (h.frame cb hcb hn)
  own := fun cb hcb ho => h.own cb hcb (k.own cb (Nat.lt_of_lt_of_le hcb h.size) ho) }

/-- What is known of a block's make is kept. -/
theorem Nxt.tag {ρ : Rho} {m : Mem} {w : World} {ρ' : Rho} {m' : Mem} {w' : World} (h : Nxt ρ m w ρ' m' w') (t : Tag) (hb : t.b < m'.size) (ht : ∀ e, ρ' t.b = some e → TagR e t w') : Nxt ρ m w ρ' (m'.tag t) w' := {
  mr := ⟨h.mr.blk, h.mr.cb, h.mr.sep, fun u hu => by
    rcases List.mem_cons.1 hu with rfl | hu
    · exact ⟨hb, ht⟩
    · exact h.mr.ty u hu, h.mr.gl⟩
  old := h.old
  msize := h.msize
  os := h.os
  tape := h.tape
  output := h.output
  size := h.size
  frame := h.frame
  own := h.own }

/-- A world that differs in its count of draws alone. -/
theorem Nxt.drew {ρ : Rho} {m : Mem} {w : World} (hm : MR ρ m w) : Nxt ρ m w ρ m w.drew :=
  ⟨⟨fun b e hb => (hm.blk b e hb).of_heap rfl, hm.cb, hm.sep, hm.ty, hm.gl⟩, fun _ _ => rfl, Nat.le_refl _, rfl, rfl, rfl, Nat.le_refl _, fun _ _ _ => rfl, fun _ _ h => h⟩

end Sim
