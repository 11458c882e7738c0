/-
  Lemmas of this claim's own: operations that leave memory as it is: their evaluation over abstract values, and that it is the model's. No condition.
-/
import Derived.Test.YtdmahionfllhnaaGreatDoorSim3
import Derived.Lib.Builder
import Derived.Laws.IdiomStrings
import Derived.Laws.Build
namespace Sim
open Go

def loadV (P : Program) (t : TypeId) (v : V) (m : Mem) : Option V :=
  match v with
  | .ptr b off =>
    match aggT P t with
    | some true => match szT P t with
      | some n => (cells m b off n).map .agg
      | none => none
    | some false => cell m b off
    | none => none
  | _ => none

theorem loadV_rel {P : Program} {ρ : Rho} {m : Mem} {w : World} (hm : MR ρ m w) {t : TypeId} {p v : V} {x : Value} (h : loadV P t p m = some v) (hp : VR ρ p x) :
    ∃ r, (Instr.loadAt t x).run P w = .ok r w ∧ VR ρ v r := by
  unfold loadV at h
  split at h
  case h_2 => cases h
  rename_i b off
  cases hp with
  | ptr _ _ e hb =>
    split at h
    · rename_i ha
      split at h
      · rename_i n hs
        cases hc : cells m b off n with
        | none => simp [hc] at h
        | some l =>
          simp [hc] at h; subst h
          obtain ⟨xs, h1, h2, h3, _⟩ := cells_rel (P := P) hm hb hc
          exact ⟨.agg xs.toArray, by simp [Instr.loadAt, Instr.sureAddr, loadVar, run_aggT ha, run_sz hs, h3], .agg _ _ (by simpa using h2)⟩
      · cases h
    · rename_i ha
      obtain ⟨r, h1, h2⟩ := cell_rel hm hb h
      exact ⟨r, by simp [Instr.loadAt, Instr.sureAddr, loadVar, run_aggT ha, h1], h2⟩
    · cases h

def nilCheckV : V → Option V
  | .nilp | .nili | .nilf => none
  | v => some v

def allBytes : List V → Option (List UInt8)
  | [] => some []
  | .int .u8 n :: r => if 0 ≤ n ∧ n < 256 then (allBytes r).map (UInt8.ofNat n.toNat :: ·) else none
  | _ => none

theorem allBytes_rel {ρ : Rho} : ∀ {l : List V} {xs : List Value} {s : List UInt8}, VRs ρ l xs → allBytes l = some s → xs = s.map fun b => Value.int .u8 (b.toNat : Int)
  | [], _, s, .nil, h => by simp [allBytes] at h; subst h; rfl
  | _, _, s, .cons v x l xs hv t, h => by
    unfold allBytes at h
    split at h
    · rename_i heq; cases heq
    · rename_i n r heq
      cases heq
      split at h
      · rename_i hn
        cases hr : allBytes l with
        | none => simp [hr] at h
        | some s' =>
          simp [hr] at h; subst h
          cases hv
          have hn' : (UInt8.ofNat n.toNat).toNat = n.toNat := by simp; omega
          simp only [List.map_cons, hn', allBytes_rel t hr]
          congr 2
          omega
      · cases h
    · cases h

def toUnsafe (P : Program) (m : Mem) (b off : Nat) (t : TypeId) : Bool :=
  (match P.info? t with | some j => !decide (j.size = 0) | none => false) && (match m.rd b with | some c => decide (off < c.length) | none => false)
def fromUnsafe (P : Program) (m : Mem) (b off : Nat) (t : TypeId) : Bool :=
  (P.info? t).isSome && m.ty.any fun g => decide (g.b = b) && match g.sz with | some s => liesAt P P.depth g.el (s / P.cellsOf g.el) off t 1 | none => false

def convV (P : Program) (src dst : TypeId) (v : V) (m : Mem) : Option V :=
  match P.underlying src, P.underlying dst, v with
  | some _, some (.int k), .int _ n => some (.int k (k.wrap n))
  | some _, some .string, .str s => some (.str s)
  | some (.slice e), some .string, .nils => if P.underlying e matches some (.int .u8) then some (.str []) else none
  | some (.slice e), some .string, .slc b off len _ _ =>
    if P.underlying e matches some (.int .u8) then
      match cells m b off len with
      | some l => (allBytes l).map .str
      | none => none
    else none
  | some (.pointer t), some .unsafePointer, .ptr b off => if toUnsafe P m b off t = true then some (.ptr b off) else none
  | some .unsafePointer, some (.pointer t), .ptr b off => if fromUnsafe P m b off t = true then some (.ptr b off) else none
  | _, _, _ => none

theorem toUnsafe_rel {P : Program} {ρ : Rho} {m : Mem} {w : World} (hm : MR ρ m w) {src dst t : TypeId} {b off : Nat} {x : Value} (hs : P.underlying src = some (.pointer t)) (hd : P.underlying dst = some .unsafePointer)
    (h : toUnsafe P m b off t = true) (hp : VR ρ (.ptr b off) x) : (convert src dst x).run P w = .ok x w := by
  cases hp with
  | ptr _ _ e hb =>
    unfold toUnsafe at h
    simp only [Bool.and_eq_true] at h
    obtain ⟨h1, h2⟩ := h
    cases hi : P.info? t with
    | none => rw [hi] at h1; cases h1
    | some j =>
      rw [hi] at h1
      simp only [Bool.not_eq_true', decide_eq_false_iff_not] at h1
      cases hr : m.rd b with
      | none => rw [hr] at h2; cases h2
      | some c =>
        rw [hr] at h2
        simp only [decide_eq_true_eq] at h2
        have hbr := hm.blk b e hb
        obtain ⟨C, el, fz, q1, q2⟩ : ∃ C el fz, w.heap[e.cb]? = some (.cells C el fz) ∧ CellsR ρ e c C := by
          unfold Mem.rd at hr
          cases hg : m.get b with
          | none => rw [hg] at hr; cases hr
          | some k =>
            rw [hg] at hr hbr
            cases k with
            | cells c' => cases hr; obtain ⟨C, el, fz, q1, q2, _⟩ := hbr; exact ⟨C, el, fz, q1, q2⟩
            | ro c' => cases hr; obtain ⟨C, el, fz, q1, q2, _⟩ := hbr; exact ⟨C, el, fz, q1, q2⟩
            | _ => cases hr
        obtain ⟨k1, k2, k3, _⟩ := q2
        exact Lib.run_to_unsafe w ⟨e.cb, e.base + off, none⟩ hs hd hi h1 (e := el) (cells := C.size) (by simp [World.shape?, q1]) (by simp only; omega)

theorem fromUnsafe_rel {P : Program} {ρ : Rho} {m : Mem} {w : World} (hm : MR ρ m w) {src dst t : TypeId} {b off : Nat} {x : Value} (hs : P.underlying src = some .unsafePointer) (hd : P.underlying dst = some (.pointer t))
    (h : fromUnsafe P m b off t = true) (hp : VR ρ (.ptr b off) x) : (convert src dst x).run P w = .ok x w := by
  cases hp with
  | ptr _ _ e hb =>
    unfold fromUnsafe at h
    simp only [Bool.and_eq_true, List.any_eq_true, decide_eq_true_eq] at h
    obtain ⟨h1, g, hg, hgb, h2⟩ := h
    obtain ⟨j, hj⟩ := Option.isSome_iff_exists.1 h1
    cases hsz : g.sz with
    | none => rw [hsz] at h2; cases h2
    | some s =>
      rw [hsz] at h2
      obtain ⟨C, fz, q1, q2⟩ := (hm.ty g hg).2 e (by rw [hgb]; exact hb)
      obtain ⟨q3, q4⟩ := q2 s hsz
      exact Lib.run_from_unsafe w ⟨e.cb, e.base + off, none⟩ hs hd hj (e := g.el) (cells := s) (by simp [World.shape?, q1, q4]) (by simp only [q3, Nat.zero_add]; exact h2)

theorem convV_rel {P : Program} {ρ : Rho} {m : Mem} {w : World} (hm : MR ρ m w) {src dst : TypeId} {p v : V} {x : Value} (h : convV P src dst p m = some v) (hp : VR ρ p x) :
    ∃ r, (convert src dst x).run P w = .ok r w ∧ VR ρ v r := by
  unfold convV at h
  split at h
  · rename_i d k k' n hs hd
    cases h; cases hp
    refine ⟨.int k (k.wrap n), ?_, .int _ _⟩
    simp [convert, run_underlying hd, run_underlying hs, Conv.intToInt]
  · rename_i d s hs hd
    cases h; cases hp
    refine ⟨.string ⟨s.toArray⟩, ?_, .str _⟩
    simp [convert, run_underlying hd, run_underlying hs]
  · rename_i e hs hd
    split at h
    · cases h; cases hp
      rename_i he
      have he' : P.underlying e = some (.int .u8) := by revert he; cases P.underlying e with
        | none => simp
        | some d => cases d <;> simp
      exact ⟨.string ⟨[].toArray⟩, by rw [run_convert_bytes_string w src dst e none 0 0 hs he' hd]; simp [Conv.bytesToString]; rfl, .str _⟩
    · cases h
  · rename_i e b off len cap sz hs hd
    split at h
    · rename_i he
      have he' : P.underlying e = some (.int .u8) := by revert he; cases P.underlying e with
        | none => simp
        | some d => cases d <;> simp
      cases hc : cells m b off len with
      | none => simp [hc] at h
      | some l =>
        simp only [hc] at h
        cases hb : allBytes l with
        | none => simp [hb] at h
        | some s =>
          simp [hb] at h; subst h
          have fin : ∀ (a : Addr) (cap' : Nat), (loadCells a len).run P w = .ok (s.map fun b => Value.int .u8 (b.toNat : Int)).toArray w →
              ∃ r, (convert src dst (.slice (some a) len cap')).run P w = .ok r w ∧ VR ρ (.str s) r := by
            intro a cap' hl
            refine ⟨.string ⟨s.toArray⟩, ?_, .str _⟩
            rw [run_convert_bytes_string w src dst e _ _ _ hs he' hd, run_bytesToString w a len cap' (s.map fun b => (b.toNat : Int)) (by rw [hl]; simp [Function.comp_def]), foldl_push_byteCells]
            simp
          cases hp with
          | slc _ _ _ _ cap' _ e' hbe =>
            obtain ⟨xs, h1, h2, h3, _⟩ := cells_rel (P := P) hm hbe hc
            rw [allBytes_rel h2 hb] at h3
            exact fin _ _ h3
          | slc0 _ _ _ e' a hbe =>
            have : l = [] := by
              obtain ⟨xs, h1, h2, _⟩ := cells_rel (P := P) hm hbe hc
              have := h2.length; rw [h1] at this; exact List.length_eq_zero_iff.1 this
            subst this
            simp [allBytes] at hb; subst hb
            exact fin a 0 (by simp [loadCells, loadCellsFrom])
    · cases h
  · rename_i hs hd
    split at h
    · rename_i hu
      cases h
      exact ⟨x, toUnsafe_rel hm hs hd hu hp, hp⟩
    · cases h
  · rename_i hs hd
    split at h
    · rename_i hu
      cases h
      exact ⟨x, fromUnsafe_rel hm hs hd hu hp, hp⟩
    · cases h
  · cases h

/-! slicing -/

def bnd (v : Int) (top : Nat) : Option Nat := if 0 ≤ v ∧ v ≤ (top : Int) then some v.toNat else none

theorem bnd_some {v : Int} {top n : Nat} (h : bnd v top = some n) : 0 ≤ v ∧ v ≤ (top : Int) ∧ v.toNat = n ∧ n ≤ top := by
  unfold bnd at h
  split at h
  · cases h; omega
  · cases h

def bndM (cap : Nat) : Option Int → Option Nat
  | none => some cap
  | some v => bnd v cap
def bndH (len m : Nat) : Option Int → Option Int → Option Nat
  | some v, _ => bnd v m
  | none, none => some len
  | none, some _ => none
def bndL (h : Nat) : Option Int → Option Nat
  | none => some 0
  | some v => bnd v h

def boundsV (len cap : Nat) (lo hi mx : Option Int) : Option (Nat × Nat × Nat) :=
  match bndM cap mx with
  | none => none
  | some m => match bndH len m hi mx with
    | none => none
    | some h => match bndL h lo with
      | none => none
      | some l => some (l, h, m)

theorem boundsV_some {len cap : Nat} {lo hi mx : Option Int} {l h m : Nat} (hb : boundsV len cap lo hi mx = some (l, h, m)) :
    bndM cap mx = some m ∧ bndH len m hi mx = some h ∧ bndL h lo = some l := by
  unfold boundsV at hb
  split at hb
  · cases hb
  · rename_i m' h1
    split at hb
    · cases hb
    · rename_i h' h2
      split at hb
      · cases hb
      · rename_i l' h3
        cases hb
        exact ⟨h1, h2, h3⟩

/-- The bound's number, where it stands. -/
def optI : Option V → Option (Option Int)
  | none => some none
  | some (.int _ n) => some (some n)
  | some _ => none

def OptR : Option Int → Option Value → Prop
  | none, none => True
  | some n, some x => ∃ k, x = .int k n
  | _, _ => False

def lowRun (lov : Option Value) (h M : Nat) (code : BoundsCode) : Sem (Nat × Nat × Nat) :=
  match lov with
  | some v => do let l ← Instr.sliceBound v h code; pure (l, h, M)
  | none => do let l ← pure 0; pure (l, h, M)

theorem low_run {P : Program} {w : World} {lo : Option Int} {lov : Option Value} {l h : Nat} (M : Nat) (code : BoundsCode) (h3 : bndL h lo = some l) (hlo : OptR lo lov) :
    (lowRun lov h M code).run P w = .ok (l, h, M) w := by
  unfold lowRun
  cases lo with
  | none => cases lov with
    | some _ => exact hlo.elim
    | none => simp [bndL] at h3; subst h3; rfl
  | some n => cases lov with
    | none => exact hlo.elim
    | some x =>
      obtain ⟨k, rfl⟩ := hlo
      obtain ⟨a, b, c, _⟩ := bnd_some h3
      simp [run_sliceBound w k n h code a b, c]

/-- The bounds, where the model's capacity may be more: what is in reach of the lesser one is in reach of the greater. -/
theorem bounds_run {P : Program} {w : World} {s : Bool} {len cap cap' : Nat} {lo hi mx : Option Int} {l h m : Nat} {lov hiv mxv : Option Value} (hb : boundsV len cap lo hi mx = some (l, h, m))
    (hc : cap ≤ cap') (hlo : OptR lo lov) (hhi : OptR hi hiv) (hmx : OptR mx mxv) :
    (Instr.sliceBounds s len cap' lov hiv mxv).run P w = .ok (l, h, if mx.isSome then m else cap') w := by
  obtain ⟨h1, h2, h3⟩ := boundsV_some hb
  cases mx with
  | none =>
    cases mxv with
    | some _ => exact hmx.elim
    | none =>
      simp [bndM] at h1; subst h1
      cases hi with
      | none => cases hiv with
        | some _ => exact hhi.elim
        | none =>
          simp [bndH] at h2; subst h2
          unfold Instr.sliceBounds
          simp only [Sem.run_bind, Sem.run_pure, Result.andThen_ok]
          exact low_run cap' _ h3 hlo
      | some n => cases hiv with
        | none => exact hhi.elim
        | some x =>
          obtain ⟨k, rfl⟩ := hhi
          obtain ⟨a, b, c, _⟩ := bnd_some h2
          unfold Instr.sliceBounds
          simp only [Sem.run_bind, Sem.run_pure, Result.andThen_ok, run_sliceBound w k n cap' _ a (by omega), c]
          exact low_run cap' _ h3 hlo
  | some nm =>
    cases mxv with
    | none => exact hmx.elim
    | some xm =>
      obtain ⟨km, rfl⟩ := hmx
      obtain ⟨ma, mb, mc, _⟩ := bnd_some h1
      cases hi with
      | none => simp [bndH] at h2
      | some n => cases hiv with
        | none => exact hhi.elim
        | some x =>
          obtain ⟨k, rfl⟩ := hhi
          obtain ⟨a, b, c, _⟩ := bnd_some h2
          unfold Instr.sliceBounds
          simp only [Sem.run_bind, Result.andThen_ok, run_sliceBound w km nm cap' _ ma (by omega), mc, run_sliceBound w k n m _ a b, c]
          exact low_run m _ h3 hlo

theorem bounds_le {len cap : Nat} {lo hi mx : Option Int} {l h m : Nat} (hb : boundsV len cap lo hi mx = some (l, h, m)) (hlen : len ≤ cap) : l ≤ h ∧ h ≤ m ∧ m ≤ cap := by
  obtain ⟨h1, h2, h3⟩ := boundsV_some hb
  have hl : l ≤ h := by
    cases lo with
    | none => simp [bndL] at h3; omega
    | some n => exact (bnd_some h3).2.2.2
  have hm : m ≤ cap := by
    cases mx with
    | none => simp [bndM] at h1; omega
    | some n => exact (bnd_some h1).2.2.2
  have hh : h ≤ m := by
    cases hi with
    | some n => exact (bnd_some h2).2.2.2
    | none => cases mx with
      | none => simp [bndH, bndM] at h1 h2; omega
      | some n => simp [bndH] at h2
  exact ⟨hl, hh, hm⟩

theorem boundsV_max {len cap : Nat} {lo hi : Option Int} {l h m : Nat} (hb : boundsV len cap lo hi none = some (l, h, m)) : m = cap := by
  have := (boundsV_some hb).1
  simp [bndM] at this; omega

def sliceV (P : Program) (t : TypeId) (v : V) (lo hi mx : Option Int) (m : Mem) : Option V :=
  match P.underlying t, v with
  | some .string, .str s =>
    if mx.isSome then none else
    match boundsV s.length s.length lo hi none with
    | some (l, h, _) => some (.str ((s.drop l).take (h - l)))
    | none => none
  | some (.slice el), .slc b off len cap sz =>
    if szT P el = some sz then
      match boundsV len cap lo hi mx with
      | some (l, h, mm) => some (.slc b (off + l * sz) (h - l) (mm - l) sz)
      | none => none
    else none
  | some (.slice el), .nils =>
    match szT P el, boundsV 0 0 lo hi mx with
    | some _, some _ => some .nils
    | _, _ => none
  | some (.array n el), .ptr b off =>
    match szT P el, boundsV n n lo hi mx, m.rd b with
    | some sz, some (l, h, mm), some c => if off + n * sz ≤ c.length then some (.slc b (off + l * sz) (h - l) (mm - l) sz) else none
    | _, _, _ => none
  | some (.pointer arr), .ptr b off =>
    match P.underlying arr with
    | some (.array n el) =>
      match szT P el, boundsV n n lo hi mx, m.rd b with
      | some sz, some (l, h, mm), some c => if off + n * sz ≤ c.length then some (.slc b (off + l * sz) (h - l) (mm - l) sz) else none
      | _, _, _ => none
    | _ => none
  | _, _ => none

theorem ba_extract (s : List UInt8) (l h : Nat) : (⟨s.toArray⟩ : ByteArray).extract l h = ⟨((s.drop l).take (h - l)).toArray⟩ := by
  apply ByteArray.ext
  simp [ByteArray.data_extract, List.extract_eq_take_drop]

/-- A slice's value behind a cut. -/
theorem slice_rel {ρ : Rho} {b off cap cap' sz : Nat} {e : Ext} {l h m m' : Nat} (hb : ρ b = some e) (hn : off + cap * sz ≤ e.n) (hc : cap ≤ cap')
    (hx : cap < cap' → off + cap * sz = e.n) (he : off + cap' * sz ≤ e.ext) (hl : l ≤ h) (hh : h ≤ m) (hm : m ≤ cap) (hm' : m' = m ∨ (m = cap ∧ m' = cap')) :
    VR ρ (.slc b (off + l * sz) (h - l) (m - l) sz) (.slice (if m' = l then some ⟨e.cb, e.base + off, none⟩ else (some ⟨e.cb, e.base + off, none⟩ : Option Addr).map (·.add (l * sz))) (h - l) (m' - l)) := by
  have e1 : l * sz ≤ cap * sz := Nat.mul_le_mul_right _ (by omega)
  by_cases hml : m' = l
  · rw [if_pos hml]
    have h1 : m - l = 0 := by omega
    have h2 : h - l = 0 := by omega
    have h3 : m' - l = 0 := by omega
    rw [h1, h2, h3]
    exact .slc0 _ _ _ e _ hb (by omega)
  · rw [if_neg hml]
    simp only [Option.map_some, Addr.add_none, Nat.add_assoc]
    have e2 : l * sz + (m - l) * sz = m * sz := by rw [← Nat.add_mul]; congr 1; omega
    have e3 : l * sz + (m' - l) * sz = m' * sz := by rw [← Nat.add_mul]; congr 1; omega
    have e4 : m * sz ≤ cap * sz := Nat.mul_le_mul_right _ hm
    have e5 : m' * sz ≤ cap' * sz := Nat.mul_le_mul_right _ (by omega)
    refine .slc b (off + l * sz) (h - l) (m - l) (m' - l) sz e hb (by omega) (by omega) (by omega) (fun hlt => ?_) (by omega)
    rcases hm' with rfl | ⟨rfl, rfl⟩
    · omega
    · have := hx (by omega); omega

theorem sliceV_rel {P : Program} {ρ : Rho} {m : Mem} {w : World} (hm : MR ρ m w) {t : TypeId} {p v : V} {x : Value} {lo hi mx : Option Int} {lov hiv mxv : Option Value} (h : sliceV P t p lo hi mx m = some v) (hp : VR ρ p x)
    (hlo : OptR lo lov) (hhi : OptR hi hiv) (hmx : OptR mx mxv) : ∃ r, (Instr.sliceAt t x lov hiv mxv).run P w = .ok r w ∧ VR ρ v r := by
  unfold sliceV at h
  split at h
  · rename_i s hu
    cases hp
    split at h
    · cases h
    · rename_i hmn
      cases mx with
      | some _ => simp at hmn
      | none =>
        cases mxv with
        | some _ => exact hmx.elim
        | none =>
          split at h
          · rename_i l hh mm hb
            cases h
            have hsz : (⟨s.toArray⟩ : ByteArray).size = s.length := by simp [ByteArray.size]
            have := bounds_run (P := P) (w := w) (s := false) (lov := lov) (hiv := hiv) (mxv := none) hb (Nat.le_refl _) hlo hhi trivial
            refine ⟨.string ⟨((s.drop l).take (hh - l)).toArray⟩, ?_, .str _⟩
            simp [Instr.sliceAt, Instr.slice, run_underlying hu, hsz, this, ba_extract]
          · cases h
  · rename_i el b off len cap sz hu
    split at h
    case isFalse => cases h
    rename_i hs
    split at h
    case h_2 => cases h
    rename_i l hh mm hb
    cases h
    cases hp with
    | slc _ _ _ _ cap' _ e hbe hl hc hn hx he =>
      have hle := bounds_le hb hl
      have := bounds_run (P := P) (w := w) (s := true) (lov := lov) (hiv := hiv) (mxv := mxv) hb hc hlo hhi hmx
      refine ⟨_, by simp only [Instr.sliceAt, Instr.slice, Sem.run_bind, run_underlying hu, Result.andThen_ok, this, run_sz hs, Sem.run_pure]; rfl, ?_⟩
      refine slice_rel hbe hn hc hx he hle.1 hle.2.1 hle.2.2 ?_
      cases mx with
      | some _ => exact .inl rfl
      | none =>
        exact .inr ⟨boundsV_max hb, rfl⟩
    | slc0 _ _ _ e a hbe hn =>
      have hle := bounds_le hb (Nat.le_refl _)
      have := bounds_run (P := P) (w := w) (s := true) (lov := lov) (hiv := hiv) (mxv := mxv) hb (Nat.le_refl _) hlo hhi hmx
      have h0 : mm = 0 ∧ l = 0 ∧ hh = 0 := by omega
      obtain ⟨rfl, rfl, rfl⟩ := h0
      have h1 : (if mx.isSome = true then (0 : Nat) else 0) = 0 := by simp
      rw [h1] at this
      refine ⟨.slice (some a) 0 0, by simp [Instr.sliceAt, Instr.slice, run_underlying hu, this, run_sz hs], ?_⟩
      simpa using VR.slc0 b off sz e a hbe hn
  · rename_i el hu
    cases hp
    split at h
    · rename_i sz b hs hb
      cases h
      obtain ⟨l, hh, mm⟩ := b
      have hle := bounds_le hb (Nat.le_refl _)
      have := bounds_run (P := P) (w := w) (s := true) (lov := lov) (hiv := hiv) (mxv := mxv) hb (Nat.le_refl _) hlo hhi hmx
      have h0 : mm = 0 ∧ l = 0 ∧ hh = 0 := by omega
      obtain ⟨rfl, rfl, rfl⟩ := h0
      have h1 : (if mx.isSome = true then (0 : Nat) else 0) = 0 := by simp
      rw [h1] at this
      exact ⟨.slice none 0 0, by simp [Instr.sliceAt, Instr.slice, run_underlying hu, this, run_sz hs], .nils⟩
    · cases h
  · rename_i n el b off hu
    split at h
    case h_2 => cases h
    rename_i sz l hh mm c hs hb hc
    split at h
    case isFalse => cases h
    rename_i hle'
    cases h
    cases hp with
    | ptr _ _ e hbe =>
      obtain ⟨C, el', fz, h1, h2⟩ := rd_rel hm hbe hc
      have hle := bounds_le hb (Nat.le_refl _)
      have := bounds_run (P := P) (w := w) (s := false) (lov := lov) (hiv := hiv) (mxv := mxv) hb (Nat.le_refl _) hlo hhi hmx
      have hmm : (if mx.isSome = true then mm else n) = mm := by
        cases mx with
        | some _ => rfl
        | none => exact (boundsV_max hb).symm
      rw [hmm] at this
      refine ⟨.slice (if mm = l then some ⟨e.cb, e.base + off, none⟩ else (some ⟨e.cb, e.base + off, none⟩ : Option Addr).map (·.add (l * sz))) (hh - l) (mm - l), ?_, ?_⟩
      · simp only [Instr.sliceAt, Sem.run_bind, run_underlying hu, Result.andThen_ok, Instr.sureAddr, Sem.run_pure, this, run_sz hs]
        split <;> simp_all
      · have q := h2.1
        have q2 := h2.2.1
        exact slice_rel hbe (by omega) (Nat.le_refl n) (fun h => absurd h (by omega)) (by omega) hle.1 hle.2.1 hle.2.2 (.inl rfl)
  · rename_i arr b off hu
    split at h
    case h_2 => cases h
    rename_i n el hua
    split at h
    case h_2 => cases h
    rename_i sz l hh mm c hs hb hc
    split at h
    case isFalse => cases h
    rename_i hle'
    cases h
    cases hp with
    | ptr _ _ e hbe =>
      obtain ⟨C, el', fz, h1, h2⟩ := rd_rel hm hbe hc
      have hle := bounds_le hb (Nat.le_refl _)
      have := bounds_run (P := P) (w := w) (s := false) (lov := lov) (hiv := hiv) (mxv := mxv) hb (Nat.le_refl _) hlo hhi hmx
      have hmm : (if mx.isSome = true then mm else n) = mm := by
        cases mx with
        | some _ => rfl
        | none => exact (boundsV_max hb).symm
      rw [hmm] at this
      refine ⟨.slice (if mm = l then some ⟨e.cb, e.base + off, none⟩ else (some ⟨e.cb, e.base + off, none⟩ : Option Addr).map (·.add (l * sz))) (hh - l) (mm - l), ?_, ?_⟩
      · simp only [Instr.sliceAt, Instr.slice, Sem.run_bind, run_underlying hu, run_underlying hua, Result.andThen_ok, asAddr, Sem.run_pure, this, run_sz hs]
        split <;> simp_all
      · have q := h2.1
        have q2 := h2.2.1
        exact slice_rel hbe (by omega) (Nat.le_refl n) (fun h => absurd h (by omega)) (by omega) hle.1 hle.2.1 hle.2.2 (.inl rfl)
  · cases h

end Sim
