/-
  Lemmas of this claim's own: reading abstract memory. No condition.
-/
import Derived.Test.YtdmahionfllhnaaGreatDoorSim20
import Derived.Test.YtdmahionfllhnaaGreatDoorSim18
namespace Sim
open Go

@[simp] theorem allocV_eq (t : TypeId) (l : List V) (m : Mem) : allocV t l m = some (.ptr m.size 0, m.var t l) := rfl
@[simp] theorem newMapV_eq (m : Mem) : newMapV m = some (.map m.size, m.push (.map [])) := rfl
@[simp] theorem Mem.size_var (m : Mem) (t : TypeId) (l : List V) : (m.var t l).size = m.size + 1 := by simp [Mem.var]
theorem Mem.get_var (m : Mem) (t : TypeId) (l : List V) (b : Nat) : (m.var t l).get b = if b = m.size then some (.cells l) else m.get b := by simp [Mem.var, Mem.get_push]
@[simp] theorem Mem.get_var_new (m : Mem) (t : TypeId) (l : List V) : (m.var t l).get m.size = some (.cells l) := by simp [Mem.get_var]
@[simp] theorem Mem.rd_var_new (m : Mem) (t : TypeId) (l : List V) : (m.var t l).rd m.size = some l := by simp [Mem.rd, Blk.rd]
@[simp] theorem Mem.wr_var_new (m : Mem) (t : TypeId) (l : List V) : (m.var t l).wr m.size = some l := by simp [Mem.wr]
@[simp] theorem cell_var_new (m : Mem) (t : TypeId) (l : List V) (o : Nat) : cell (m.var t l) m.size o = l[o]? := by simp [cell]
@[simp] theorem cells_var_new (m : Mem) (t : TypeId) (l : List V) (o n : Nat) : cells (m.var t l) m.size o n = if o + n ≤ l.length then some ((l.drop o).take n) else none := by simp [cells]

theorem CallP.of_ev {P : Program} {E : EqT} {ov : OvT} {k g : Nat} {args : List V} {m m' : Mem} {v : V} {K : V → Mem → Prop} (h : evCall P E ov k g args m = some (v, m')) (hk : K v m') : CallP P E ov g args m K := ⟨k, v, m', h, hk⟩

theorem Mem.get_set (m : Mem) (b c : Nat) (x : Blk) : (m.set b x).get c = if b = c then (if b < m.size then some x else none) else m.get c := by
  by_cases h : b = c
  · subst h
    by_cases hb : b < m.size
    · rw [Mem.get_set_same x hb]; simp [hb]
    · simp only [if_true, if_neg hb]
      unfold Mem.get Mem.set
      simp only [List.getElem?_set, if_true]
      rw [if_neg (by unfold Mem.size at hb; exact hb)]
  · rw [Mem.get_set_ne _ _ h, if_neg h]
@[simp] theorem rd_set_same {m : Mem} {b : Nat} {c : List V} (h : b < m.size) : (m.set b (.cells c)).rd b = some c := by simp [Mem.rd, Mem.get_set_same _ h, Blk.rd]
@[simp] theorem wr_set_same {m : Mem} {b : Nat} {c : List V} (h : b < m.size) : (m.set b (.cells c)).wr b = some c := by simp [Mem.wr, Mem.get_set_same _ h]
theorem rd_set_ne {m : Mem} {b b' : Nat} {x : Blk} (h : b ≠ b') : (m.set b x).rd b' = m.rd b' := by simp [Mem.rd, Mem.get_set_ne _ _ h]
theorem wr_set_ne {m : Mem} {b b' : Nat} {x : Blk} (h : b ≠ b') : (m.set b x).wr b' = m.wr b' := by simp [Mem.wr, Mem.get_set_ne _ _ h]
theorem rd_var_ne {m : Mem} {t b : Nat} {l : List V} (h : b ≠ m.size) : (m.var t l).rd b = m.rd b := by simp [Mem.rd, Mem.get_var, h]
theorem wr_var_ne {m : Mem} {t b : Nat} {l : List V} (h : b ≠ m.size) : (m.var t l).wr b = m.wr b := by simp [Mem.wr, Mem.get_var, h]
theorem rd_of {m : Mem} {b : Nat} {c : List V} (h : m.get b = some (.cells c)) : m.rd b = some c := by simp [Mem.rd, h, Blk.rd]
theorem rd_ro {m : Mem} {b : Nat} {c : List V} (h : m.get b = some (.ro c)) : m.rd b = some c := by simp [Mem.rd, h, Blk.rd]
theorem wr_of {m : Mem} {b : Nat} {c : List V} (h : m.get b = some (.cells c)) : m.wr b = some c := by simp [Mem.wr, h]
theorem cell_rd {m : Mem} {b : Nat} {c : List V} (h : m.rd b = some c) (o : Nat) : cell m b o = c[o]? := by simp [cell, h]
theorem cells_rd {m : Mem} {b : Nat} {c : List V} (h : m.rd b = some c) (o n : Nat) : cells m b o n = if o + n ≤ c.length then some ((c.drop o).take n) else none := by simp [cells, h]
@[simp] theorem cell_set_same {m : Mem} {b : Nat} {c : List V} (h : b < m.size) (o : Nat) : cell (m.set b (.cells c)) b o = c[o]? := cell_rd (rd_set_same h) o
@[simp] theorem cells_set_same {m : Mem} {b : Nat} {c : List V} (h : b < m.size) (o n : Nat) : cells (m.set b (.cells c)) b o n = if o + n ≤ c.length then some ((c.drop o).take n) else none := cells_rd (rd_set_same h) o n

@[simp] theorem V.cells_bool (b : Bool) : (V.bool b).cells = [.bool b] := rfl
@[simp] theorem V.cells_int (k : IntKind) (n : Int) : (V.int k n).cells = [.int k n] := rfl
@[simp] theorem V.cells_str (s : List UInt8) : (V.str s).cells = [.str s] := rfl
@[simp] theorem V.cells_ptr (b o : Nat) : (V.ptr b o).cells = [.ptr b o] := rfl
@[simp] theorem V.cells_nilp : V.nilp.cells = [.nilp] := rfl
@[simp] theorem V.cells_slc (b o l c s : Nat) : (V.slc b o l c s).cells = [.slc b o l c s] := rfl
@[simp] theorem V.cells_nils : V.nils.cells = [.nils] := rfl
@[simp] theorem V.cells_map (r : Nat) : (V.map r).cells = [.map r] := rfl
@[simp] theorem V.cells_nilm : V.nilm.cells = [.nilm] := rfl
@[simp] theorem V.cells_fn (g : Nat) (a b : List V) : (V.fn g a b).cells = [.fn g a b] := rfl
@[simp] theorem V.cells_nilf : V.nilf.cells = [.nilf] := rfl
@[simp] theorem V.cells_agg (l : List V) : (V.agg l).cells = l := rfl

def mkS (size by_ : Nat) (z : List V) (l c : Int) (m : Mem) : Option (V × Mem) :=
  if z.length = size ∧ 0 < size ∧ 0 ≤ l ∧ l ≤ c ∧ by_ * c ≤ 281474976710656 ∧ c ≤ 9223372036854775807 then some (.slc m.size 0 l.toNat c.toNat size, m.push (.cells (repV z (c.toNat * size)))) else none
def bsS (size n : Nat) (z : List V) (ps : List (Nat × V)) (m : Mem) : Option (V × Mem) :=
  match fillV (fun i => some (i * size, size)) (repV z (n * size)) ps with
  | some c => some (.slc m.size 0 n n size, m.push (.cells c))
  | none => none
def apS (el size by_ : Nat) (s x : V) (m : Mem) : Option (V × Mem) :=
  match srcV m size x, srcV m size s, s with
  | some (n, new), some (len, old), s =>
    if new.all V.one = true then
      match s with
      | .nils => if n = 0 then some (.nils, m) else
        if n * by_ ≤ 140737488355328 then some (.slc m.size 0 n n size, m.row el new) else none
      | .slc b off _ cap sz =>
        if len + n ≤ cap then
          if new.isEmpty then some (.slc b off len cap sz, m) else
          match m.wr b with
          | some c => if off + len * size + new.length ≤ c.length then some (.slc b off (len + n) cap sz, m.set b (.cells (splice c (off + len * size) new))) else none
          | none => none
        else if (len + n) * by_ ≤ 140737488355328 then
          match m.get b with
          | some (.cells c) =>
            some (.slc m.size 0 (len + n) (len + n) size, if off + cap * size = c.length then (m.set b .dead).rowIf ⟨b, el, none⟩ el (old ++ new) else m.row el (old ++ new))
          | some (.ro _) => some (.slc m.size 0 (len + n) (len + n) size, m.row el (old ++ new))
          | _ => none
        else none
      | _ => none
    else none
  | _, _, _ => none
def slS (sz b off len cap : Nat) (lo hi mx : Option V) : Option V :=
  (optI lo).bind fun l => (optI hi).bind fun h => (optI mx).bind fun k =>
  match boundsV len cap l h k with
  | some (l, h, mm) => some (.slc b (off + l * sz) (h - l) (mm - l) sz)
  | none => none
def slN (lo hi mx : Option V) : Option V :=
  (optI lo).bind fun l => (optI hi).bind fun h => (optI mx).bind fun k =>
  match boundsV 0 0 l h k with
  | some _ => some .nils
  | none => none
def slT (s : List UInt8) (lo hi : Option V) : Option V :=
  (optI lo).bind fun l => (optI hi).bind fun h =>
  match boundsV s.length s.length l h none with
  | some (l, h, _) => some (.str ((s.drop l).take (h - l)))
  | none => none

/-- What a call comes to, where it is known, as an equation to rewrite by. -/
theorem CallP_eq {P : Program} {E : EqT} {ov : OvT} {k g : Nat} {args : List V} {m m' : Mem} {v : V} (h : evCall P E ov k g args m = some (v, m')) (K : V → Mem → Prop) : CallP P E ov g args m K = K v m' := by
  apply propext
  constructor
  · rintro ⟨j, v', m1, h1, hk⟩
    have a := evCall_mono P E ov (Nat.le_max_left k j) _ _ _ _ h
    have b := evCall_mono P E ov (Nat.le_max_right k j) _ _ _ _ h1
    rw [a] at b
    cases b
    exact hk
  · intro hk
    exact ⟨k, v, m', h, hk⟩

end Sim
