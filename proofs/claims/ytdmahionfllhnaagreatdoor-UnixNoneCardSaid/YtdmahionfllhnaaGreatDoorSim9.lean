/-
  Lemmas of this claim's own: copy, the bytes of a text, and every operation in one function, shown to be the model's. No condition.
-/
import Derived.Test.YtdmahionfllhnaaGreatDoorSim8
import Derived.Lib.UnsafeStr
namespace Sim
open Go Go.MapKept

def lenS : V → Option Nat
  | .nils => some 0
  | .slc _ _ len _ _ => some len
  | .str s => some s.length
  | _ => none

def firstV (m : Mem) (size n : Nat) : V → Option (List V)
  | .nils => some []
  | .slc b off len _ sz => if sz = size ∧ n ≤ len then cells m b off (n * size) else none
  | .str s => if size = 1 then some ((s.take n).map fun b => .int .u8 (b.toNat : Int)) else none
  | _ => none

theorem lenS_rel {P : Program} {ρ : Rho} {w : World} {v : V} {x : Value} {n : Nat} (h : lenS v = some n) (hx : VR ρ v x) : (Builtin.lenOf x).run P w = .ok n w := by
  unfold lenS at h
  split at h
  · cases h; cases hx; rfl
  · cases h; cases hx <;> rfl
  · cases h; cases hx; simp [Builtin.lenOf, ByteArray.size]
  · cases h

theorem strV_rel (ρ : Rho) (s : List UInt8) : VRs ρ (s.map fun b => .int .u8 (b.toNat : Int)) (s.map fun b => Value.int .u8 (b.toNat : Int)) := by
  induction s with
  | nil => exact .nil
  | cons b s ih => exact .cons _ _ _ _ (.int _ _) ih

theorem firstV_rel {P : Program} {ρ : Rho} {m : Mem} {w : World} (hm : MR ρ m w) {size n : Nat} {l : List V} {v : V} {x : Value} (h : firstV m size n v = some l) (hx : VR ρ v x) :
    ∃ xs : List Value, VRs ρ l xs ∧ (Builtin.firstCells size n x).run P w = .ok xs.toArray w := by
  unfold firstV at h
  split at h
  · cases h; cases hx; exact ⟨[], .nil, rfl⟩
  · split at h
    · rename_i hc
      cases hx with
      | slc _ _ _ _ cap' _ e hb =>
        obtain ⟨xs, h1, h2, h3, h4⟩ := cells_rel (P := P) hm hb h
        exact ⟨xs, h2, h3⟩
      | slc0 b off _ e a hb hn =>
        have h0 : n = 0 := by omega
        subst h0
        obtain ⟨xs, h1, h2, _⟩ := cells_rel (P := P) hm hb h
        have h00 : xs = [] := List.length_eq_zero_iff.1 (by rw [h1]; simp)
        refine ⟨xs, h2, ?_⟩
        rw [h00]; simp [Builtin.firstCells, loadCells, loadCellsFrom]
    · cases h
  · rename_i s
    split at h
    · cases h; cases hx
      refine ⟨_, strV_rel ρ _, ?_⟩
      simp only [Builtin.firstCells, Sem.run_pure, ba_extract]
      simp
    · cases h
  · cases h

def copyV (P : Program) (t1 : TypeId) (d s : V) (m : Mem) : Option (V × Mem) :=
  match P.underlying t1 with
  | some (.slice el) =>
    match szT P el, lenS d, lenS s with
    | some size, some dl, some sl =>
      match firstV m size (Nat.min sl dl) s with
      | some l =>
        match d with
        | .nils => some (.int .i64 (Nat.min sl dl), m)
        | .slc b off _ _ sz =>
          if sz = size then
            if l.isEmpty then some (.int .i64 (Nat.min sl dl), m) else
            match m.wr b with
            | some c => if off + l.length ≤ c.length ∧ l.all V.one = true then some (.int .i64 (Nat.min sl dl), m.set b (.cells (splice c off l))) else none
            | none => none
          else none
        | _ => none
      | none => none
    | _, _, _ => none
  | _ => none

theorem copyV_rel {P : Program} {ρ : Rho} {m m' : Mem} {w : World} (hm : MR ρ m w) {t1 t2 ty : TypeId} {d s v : V} {dx sx : Value} (h : copyV P t1 d s m = some (v, m')) (hd : VR ρ d dx) (hs : VR ρ s sx) :
    Gives P ρ m w (Builtin.copy_ #[t1, t2] ty #[dx, sx]) v m' := by
  unfold copyV at h
  split at h
  case h_2 => cases h
  rename_i el hu
  split at h
  case h_2 => cases h
  rename_i size dl sl hsz hdl hsl
  split at h
  case h_2 => cases h
  rename_i l hl
  obtain ⟨xs, h1, h2⟩ := firstV_rel (P := P) hm hl hs
  have h3 := lenS_rel (P := P) (w := w) hsl hs
  split at h
  · cases h; cases hd
    have h0 : dl = 0 := by simp [lenS] at hdl; omega
    subst h0
    refine ⟨goInt (Nat.min sl 0), ρ, w, ?_, .refl hm, .int _ _⟩
    have hz : Nat.min sl 0 = 0 := Nat.min_zero sl
    rw [hz] at h2 ⊢
    simp [Builtin.copy_, run_underlying hu, h3, run_sz hsz, h2]
  · rename_i b off len cap sz
    split at h
    case isFalse => cases h
    have h0 : dl = len := by simp [lenS] at hdl; omega
    subst h0
    split at h
    · rename_i hemp
      cases h
      have hx0 : xs = [] := by
        have : l = [] := by simpa using hemp
        subst this
        exact List.length_eq_zero_iff.1 (by simpa using h1.length.symm)
      subst hx0
      cases hd with
      | slc _ _ _ _ cap' _ e hb =>
        refine ⟨goInt (Nat.min sl dl), ρ, w, ?_, .refl hm, .int _ _⟩
        simp [Builtin.copy_, run_underlying hu, h3, run_sz hsz, h2, storeCells]
      | slc0 _ _ _ e a hb =>
        refine ⟨goInt (Nat.min sl 0), ρ, w, ?_, .refl hm, .int _ _⟩
        have hz : Nat.min sl 0 = 0 := Nat.min_zero sl
        rw [hz] at h2 ⊢
        simp [Builtin.copy_, run_underlying hu, h3, run_sz hsz, h2, storeCells]
    · rename_i hemp
      split at h
      case h_2 => cases h
      rename_i c hwc
      split at h
      case isFalse => cases h
      rename_i hle
      cases h
      cases hd with
      | slc _ _ _ _ cap' _ e hb =>
        obtain ⟨w', r1, r2⟩ := write_rel (P := P) (off := off) (l := l) hm hb hwc hle.1 h1 hle.2
        refine ⟨goInt (Nat.min sl dl), ρ, w', ?_, r2, .int _ _⟩
        simp [Builtin.copy_, run_underlying hu, h3, run_sz hsz, h2, r1]
      | slc0 _ _ _ e a hb =>
        exfalso
        apply hemp
        have hz : Nat.min sl 0 = 0 := Nat.min_zero sl
        rw [hz] at hl
        have : l = [] := by
          unfold firstV at hl
          split at hl
          · cases hl; rfl
          · split at hl
            · unfold cells at hl
              split at hl
              · split at hl
                · cases hl; simp
                · cases hl
              · cases hl
            · cases hl
          · split at hl
            · cases hl; simp
            · cases hl
          · cases hl
        simp [this]
  · cases h

def isU8 (P : Program) (e : TypeId) : Bool :=
  match P.underlying e with
  | some (.int .u8) => true
  | _ => false

theorem isU8_eq {P : Program} {e : TypeId} (h : isU8 P e = true) : P.underlying e = some (.int .u8) := by
  unfold isU8 at h
  split at h
  · assumption
  · cases h

/-- '[]byte(s)'. -/
def bytesV (P : Program) (src dst : TypeId) (v : V) (m : Mem) : Option (V × Mem) :=
  match P.underlying src, P.underlying dst, v with
  | some .string, some (.slice e), .str s =>
    if isU8 P e = true then some (.slc m.size 0 s.length s.length 1, m.push (.cells (s.map fun b => .int .u8 (b.toNat : Int)))) else none
  | some (.slice _), some (.slice e), .slc b off len cap sz =>
    if isU8 P e = true ∧ src = dst ∧ 0 < cap ∧ (m.wr b).isSome = true then some (.slc b off len cap sz, m) else none
  | _, _, _ => none

theorem bytesV_rel {P : Program} {ρ : Rho} {m m' : Mem} {w : World} (hm : MR ρ m w) {src dst : TypeId} {p v : V} {x : Value} (h : bytesV P src dst p m = some (v, m')) (hp : VR ρ p x) :
    Gives P ρ m w (convert src dst x) v m' := by
  unfold bytesV at h
  split at h
  case h_3 => cases h
  case h_2 =>
    rename_i e1 e b off len cap sz hs hd
    split at h
    case isFalse => cases h
    rename_i hc
    obtain ⟨he, rfl, hcap, hwr⟩ := hc
    have he' := isU8_eq he
    cases h
    rw [hs] at hd; cases hd
    cases hwb : m.wr b with
    | none => rw [hwb] at hwr; cases hwr
    | some c =>
    cases hp with
    | slc _ _ _ _ cap' _ ex hb hl hcc hn hx hxe =>
      have hbr : BlkR ρ ex w (some (.cells c)) := by have := hm.blk b ex hb; rwa [Mem.wr_get hwb] at this
      obtain ⟨C, el, fz, h1, h2, h3⟩ := hbr
      refine ⟨_, ρ, w.freeze ⟨ex.cb, C.size, none⟩ 1, ?_, Nxt.refreeze hm hb hwb h1, .slc _ _ _ _ cap' _ ex hb hl hcc hn hx hxe⟩
      have hsh : w.shape? ex.cb = some (el, C.size) := by unfold World.shape?; rw [h1]
      simp [convert, run_underlying hs, run_underlying he', markStringish, hsh]
    | slc0 => omega
  rename_i e s hs hd
  split at h
  case isFalse => cases h
  rename_i he
  have he' := isU8_eq he
  cases h; cases hp
  have hsz : (⟨s.toArray⟩ : ByteArray).size = s.length := by simp [ByteArray.size]
  have hrun := run_bytes_of_string w src dst e ⟨s.toArray⟩ hs hd he'
  rw [hsz] at hrun
  have hcap := grownCap_le w s.length 0 e
  generalize grownCap w s.length 0 e = G at hrun hcap
  let C := bytesRow ⟨s.toArray⟩ G
  have hC : C.toList = (s.map fun b => Value.int .u8 (b.toNat : Int)) ++ List.replicate (G - s.length) (.int .u8 0) := by
    simp [C, bytesRow, hsz]
  have hCs : C.size = G := by
    rw [← Array.length_toList, hC]; simp; omega
  have hnew := Nxt.new_cells (c := s.map fun b => V.int .u8 (b.toNat : Int)) (C := C) (el := e) (fz := (C.size, C.size + 1)) hm (Grew.drew_alloc w (.cells C e (C.size, C.size + 1))) (.inr (Nat.le_refl _))
    (by rw [hC, List.take_append_of_le_length (by simp), List.take_of_length_le (by simp)]; exact strV_rel ρ s) (by rw [hCs]; simpa using hcap)
  refine ⟨_, _, _, hrun, hnew, ?_⟩
  have := VR.slc (ρ := ρ.put m.size ⟨w.heap.size, 0, (s.map fun b => V.int .u8 (b.toNat : Int)).length, C.size⟩) m.size 0 s.length s.length G 1 _ (Rho.put_same _ _ _) (Nat.le_refl _) hcap
    (by simp) (fun _ => by simp) (by simp [hCs])
  simpa using this

/-! what strings.Builder calls beneath Go's types -/

def sliceDataV : V → Option V
  | .nils => some .nilp
  | .slc b off _ cap _ => if cap = 0 then none else some (.ptr b off)
  | _ => none

theorem sliceDataV_rel {P : Program} {ρ : Rho} {w : World} {v u : V} {x : Value} {ts : Array TypeId} {ty : TypeId} (h : sliceDataV v = some u) (hx : VR ρ v x) :
    ∃ r, (Builtin.unsafeSliceData_ ts ty #[x]).run P w = .ok r w ∧ VR ρ u r := by
  unfold sliceDataV at h
  split at h
  · cases h; cases hx
    exact ⟨_, rfl, .nilp⟩
  · split at h
    · cases h
    · rename_i hc
      cases h
      cases hx with
      | slc _ _ _ _ cap' _ e hb hl hcc hn hxx he => exact ⟨_, Lib.run_unsafeSliceData_row w ts ty _ _ _ (by omega), .ptr _ _ _ hb⟩
      | slc0 => exact absurd rfl hc
  · cases h

theorem liesAt_row {P : Program} {e : TypeId} (hc : P.cellsOf e = 1) (count off n : Nat) (hn : off + n ≤ count) : liesAt P P.depth e count off e n = true := by
  have hd : P.depth = (2 * (P.types.size + Made.depth) + 1) + 1 := rfl
  rw [hd]
  simp only [liesAt, Bool.or_eq_true]
  left
  rw [hd]
  simp [rowAt, hc, hn, sameLayout, Nat.mod_one]

def textV (P : Program) (pt : TypeId) (p n : V) (m : Mem) : Option (V × Mem) :=
  match n with
  | .int .i64 k =>
    if k = 0 then
      match p with
      | .nilp | .ptr _ _ => some (.str [], m)
      | _ => none
    else
      match p, P.underlying pt with
      | .ptr b off, some (.pointer e) =>
        if 0 < k ∧ k ≤ 9223372036854775807 ∧ P.cellsOf e = 1 ∧ m.tagged ⟨b, e, none⟩ = true then
          match m.wr b, cells m b off k.toNat with
          | some _, some l => match allBytes l with
            | some s => some (.str s, m.set b .dead)
            | none => none
          | _, _ => none
        else none
      | _, _ => none
  | _ => none

theorem textV_rel {P : Program} {ρ : Rho} {m m' : Mem} {w : World} (hm : MR ρ m w) {pt it ty : TypeId} {p n v : V} {x y : Value} (h : textV P pt p n m = some (v, m')) (hp : VR ρ p x) (hn : VR ρ n y) :
    Gives P ρ m w (Builtin.unsafeString_ #[pt, it] ty #[x, y]) v m' := by
  unfold textV at h
  split at h
  case h_2 => cases h
  rename_i k
  cases hn
  split at h
  · rename_i hk
    subst hk
    split at h
    · cases h; cases hp
      exact ⟨_, ρ, w, Lib.run_unsafeString_none w pt it ty none, .refl hm, .str []⟩
    · cases h; cases hp
      exact ⟨_, ρ, w, Lib.run_unsafeString_none w pt it ty _, .refl hm, .str []⟩
    · cases h
  · rename_i hk
    split at h
    case h_2 => cases h
    rename_i b off e hu
    split at h
    case isFalse => cases h
    rename_i hc
    obtain ⟨c1, c2, c3, c4⟩ := hc
    split at h
    case h_2 => cases h
    rename_i c l hwr hcl
    split at h
    case h_2 => cases h
    rename_i s hs
    cases h
    cases hp with
    | ptr _ _ ex hb =>
      obtain ⟨xs, h1, h2, h3, h4⟩ := cells_rel (P := P) hm hb hcl
      have hxs := allBytes_rel h2 hs
      have hsl : s.length = k.toNat := by rw [hxs] at h1; simpa using h1
      have htg : (⟨b, e, none⟩ : Tag) ∈ m.ty := Mem.tagged_iff.1 c4
      obtain ⟨C, fz, hC, _⟩ := (hm.ty _ htg).2 ex hb
      simp only at hC
      have hbr : BlkR ρ ex w (some (.cells c)) := by have := hm.blk b ex hb; rwa [Mem.wr_get hwr] at this
      obtain ⟨C', el', fz', hC', hcr, _⟩ := hbr
      rw [hC] at hC'; cases hC'
      obtain ⟨q1, q2, q3, q4⟩ := hcr
      have hlen : off + k.toNat ≤ c.length := by
        unfold cells at hcl
        have hrd : m.rd b = some c := by unfold Mem.rd; rw [Mem.wr_get hwr]; rfl
        rw [hrd] at hcl
        simp only at hcl
        split at hcl
        · assumption
        · cases hcl
      have hk2 : (k : Int) = (s.length : Int) := by rw [hsl]; omega
      have hsh : w.shape? ex.cb = some (e, C.size) := by simp [World.shape?, hC]
      have hlies := liesAt_row (P := P) c3 (C.size / P.cellsOf e) (ex.base + off) s.length (by rw [c3, Nat.div_one]; omega)
      have hlb := Lib.run_loadBytes (P := P) w s ⟨ex.cb, ex.base + off, none⟩ .empty (by
        intro j z hz
        rw [Addr.add_none]
        exact h4 j _ (by rw [hxs]; simp [hz]))
      refine ⟨.string ⟨s.toArray⟩, ρ, w.freeze ⟨ex.cb, ex.base + off, none⟩ s.length, ?_, ?_, .str s⟩
      · have h63' : ¬ (9223372036854775807 : Int) < (s.length : Int) := by omega
        obtain ⟨s1, s2, s3, hdef⟩ : ∃ s1 s2 s3 : String, Builtin.unsafeString_ #[pt, it] ty #[.pointer (some ⟨ex.cb, ex.base + off, none⟩), .int .i64 s.length] =
            (do
              let n ← asInt (.int .i64 s.length)
              if n < 0 then runtimePanic (.error s1)
              if n > IntKind.i64.max then unsupported (.unsafePointer s2)
              if n = 0 then pure (.string .empty)
              else if ← variablesAt ⟨ex.cb, ex.base + off, none⟩ (← elemOf pt) n.toNat then do
                let s ← loadBytes ⟨ex.cb, ex.base + off, none⟩ .empty n.toNat
                freeze ⟨ex.cb, ex.base + off, none⟩ n.toNat
                pure (.string s)
              else unsupported (.unsafePointer s3)) := ⟨_, _, _, rfl⟩
        rw [hk2, hdef]
        have hmax : IntKind.i64.max = 9223372036854775807 := rfl
        have hneg : ¬ (s.length : Int) < 0 := by omega
        have hl0 : s.length ≠ 0 := by omega
        have hl1 : s ≠ [] := by intro h; rw [h] at hl0; exact hl0 rfl
        simp [asInt, asIntOf, hmax, h63', hneg, hl1, variablesAt, hsh, elemOf, run_underlying hu, hlies, hlb]
      · have hl0 : s.length ≠ 0 := by omega
        refine Nxt.spend (C' := C) (fz' := if fz.1 == fz.2 then (ex.base + off, ex.base + off + s.length) else (min fz.1 (ex.base + off), max fz.2 (ex.base + off + s.length))) hm hb hwr hC ?_ rfl
        unfold World.freeze
        rw [if_neg hl0]
        refine ⟨rfl, rfl, rfl, by simp, ?_, fun i hi => ?_⟩
        · simp only [Array.getElem?_modify, if_true, hC, Option.map_some]
        · simp only [Array.getElem?_modify, if_neg (Ne.symm hi)]

/-! every operation -/

inductive OR where
  | val (v : V)
  | call (f : Nat) (args : List V)

def optX (env : Env) : Option Operand → Option (Option Int)
  | none => some none
  | some o => match evX env o with
    | some (.int _ n) => some (some n)
    | _ => none

theorem optX_rel {ρ : Rho} {n : Nat} {env : Env} {a : Act} (h : EnvR ρ n env a.tmps) {o : Option Operand} {i : Option Int} (hi : optX env o = some i) : OptR i (o.map a.eval) := by
  unfold optX at hi
  split at hi
  · cases hi; trivial
  · split at hi
    · cases hi
      rename_i hv
      have := evX_rel h hv
      cases hx : a.eval _ <;> rw [hx] at this <;> cases this
      exact ⟨_, hx⟩
    · cases hi

def partsX (env : Env) : List (Nat × Operand) → Option (List (Nat × V))
  | [] => some []
  | (i, o) :: r => match evX env o, partsX env r with
    | some v, some l => some ((i, v) :: l)
    | _, _ => none

theorem partsX_rel {ρ : Rho} {n : Nat} {env : Env} {a : Act} (h : EnvR ρ n env a.tmps) : ∀ {ps : List (Nat × Operand)} {l : List (Nat × V)}, partsX env ps = some l → PartsR ρ l (ps.map fun p => (p.1, a.eval p.2))
  | [], l, hl => by simp [partsX] at hl; subst hl; exact .nil
  | (i, o) :: r, l, hl => by
    simp only [partsX] at hl
    split at hl
    · rename_i v l' hv hl'
      cases hl
      exact .cons _ _ _ _ _ (evX_rel h hv) (partsX_rel h hl')
    · cases hl

/-- The operations that leave memory as it is. -/
def evQ (P : Program) (E : EqT) (env : Env) (m : Mem) : Op → Option V
  | .move x | .assign x => evX env x
  | .pick c a b => match evX env c with
    | some (.bool t) => if t then evX env a else evX env b
    | _ => none
  | .load t a => (evX env a).bind fun p => loadV P t p m
  | .nilCheck x => (evX env x).bind nilCheckV
  | .binOp op t x y _ => (evX env x).bind fun u => (evX env y).bind fun v => evBin P E op t u v
  | .unOp op _ x => (evX env x).bind (evUn op)
  | .convert s d x => (evX env x).bind fun v => convV P s d v m
  | .makeFunc (.func g) first captured => (evXs env first.toList).bind fun f => (evXs env captured.toList).map fun c => .fn g f c
  | .makeInterface t x => match P.underlying t with
    | some (.interface _) => none
    | some _ => (evX env x).map (.iface t)
    | none => none
  | .slice t x lo hi mx => (evX env x).bind fun v => (optX env lo).bind fun l => (optX env hi).bind fun h => (optX env mx).bind fun k => sliceV P t v l h k m
  | .fieldAddr s x f => (evX env x).bind fun v => fieldAddrV P s v f
  | .field t x f => (evX env x).bind fun v => fieldV P t v f
  | .indexAddr t x i => (evX env x).bind fun v => (evX env i).bind fun k => indexAddrV P t v k
  | .index t x i => (evX env x).bind fun v => (evX env i).bind fun k => indexV P t v k
  | .lookup t x i ok => (evX env x).bind fun v => (evX env i).bind fun k => lookupV P t v k ok m
  | .extract x i => (evX env x).bind fun v => extractV v i
  | .build t ps => (partsX env ps.toList).bind fun l => buildV P t l
  | .call { callee := .builtin .len, args, argTypes } => match args.toList, argTypes.toList with
    | [x], [t] => (evX env x).bind fun v => lenV P t v m
    | _, _ => none
  | .call { callee := .builtin .min, args, argTypes := _ } => (evXs env args.toList).bind (minmaxV false)
  | .call { callee := .builtin .max, args, argTypes := _ } => (evXs env args.toList).bind (minmaxV true)
  | .call { callee := .builtin .unsafeSliceData, args, argTypes := _ } => match args.toList with
    | [x] => (evX env x).bind sliceDataV
    | _ => none
  | _ => none

end Sim
