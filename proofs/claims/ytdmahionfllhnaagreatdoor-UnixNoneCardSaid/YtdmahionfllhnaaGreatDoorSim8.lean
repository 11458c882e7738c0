/-
  Lemmas of this claim's own: maps written to, append, copy, bytes of a text. No condition.
-/
import Derived.Test.YtdmahionfllhnaaGreatDoorSim7
namespace Sim
open Go Go.MapKept

theorem Wrote.setObj {w : World} {cb : Nat} {o o' : Obj} (h : w.heap[cb]? = some o) : Wrote w { w with heap := w.heap.setIfInBounds cb o' } cb o' :=
  ⟨rfl, rfl, rfl, by simp, (heap_set h).1, fun i hi => (heap_set h).2 i hi⟩

/-! maps -/

def setE (i : Nat) (k v : V) : List (V × V) → List (V × V)
  | [] => []
  | p :: r => match i with
    | 0 => (k, v) :: r
    | i + 1 => p :: setE i k v r

theorem ERs.get {ρ : Rho} : ∀ {l : List (V × V)} {xs : List MapEntry}, ERs ρ l xs → ∀ {i : Nat} {p : V × V}, l[i]? = some p → ∃ e, xs[i]? = some e ∧ VR ρ p.1 e.key ∧ VR ρ p.2 e.val
  | _, _, .nil, i, p, h => by simp at h
  | _, _, .cons k v e l xs hk hv t, 0, p, h => by simp at h; subst h; exact ⟨e, by simp, hk, hv⟩
  | _, _, .cons k v e l xs hk hv t, i + 1, p, h => by simp at h; obtain ⟨y, hy, r⟩ := ERs.get t h; exact ⟨y, by simpa using hy, r⟩

theorem ERs.setE {ρ : Rho} {k v : V} {f : MapEntry → MapEntry} (hf : ∀ e, VR ρ k (f e).key ∧ VR ρ v (f e).val) : ∀ {l : List (V × V)} {xs : List MapEntry} (i : Nat), ERs ρ l xs → i < l.length → ERs ρ (setE i k v l) (xs.modify i f)
  | _, _, i, .nil, h => by simp at h
  | _, _, 0, .cons k' v' e l xs hk hv t, _ => .cons _ _ _ _ _ (hf e).1 (hf e).2 t
  | _, _, i + 1, .cons k' v' e l xs hk hv t, h => by
    simp only [Sim.setE, List.modify_succ_cons]
    exact .cons _ _ _ _ _ hk hv (ERs.setE hf i t (by simpa using h))

theorem ERs.append {ρ : Rho} : ∀ {l m : List (V × V)} {xs ys : List MapEntry}, ERs ρ l xs → ERs ρ m ys → ERs ρ (l ++ m) (xs ++ ys)
  | _, _, _, _, .nil, h => h
  | _, _, _, _, .cons k v e l xs hk hv t, h => .cons k v e _ _ hk hv (ERs.append t h)

theorem ERs.eraseIdx {ρ : Rho} : ∀ {l : List (V × V)} {xs : List MapEntry} (i : Nat), ERs ρ l xs → ERs ρ (l.eraseIdx i) (xs.eraseIdx i)
  | _, _, i, .nil => by simpa using ERs.nil
  | _, _, 0, .cons k v e l xs hk hv t => by simpa using t
  | _, _, i + 1, .cons k v e l xs hk hv t => by simpa using ERs.cons k v e _ _ hk hv (ERs.eraseIdx i t)

def mapUpdV (P : Program) (t : TypeId) (mv k v : V) (m : Mem) : Option Mem :=
  match P.underlying t, mv with
  | some (.map kt _), .map r =>
    match P.underlying kt, m.get r with
    | some d, some (.map es) =>
      if keyV d k && es.all (fun p => keyV d p.1) then
        match findE k es 0 with
        | some (i, _) => some (m.set r (.map (setE i k v es)))
        | none => some (m.set r (.map (es ++ [(k, v)])))
      else none
    | _, _ => none
  | _, _ => none

theorem sameBits_rel {d : TypeDesc} {k k' : V} {ρ : Rho} {x x' : Value} (h : keyV d k = true) (h' : keyV d k' = true) (hx : VR ρ k x) (hx' : VR ρ k' x') (he : eqKey k k' = true) (n : Nat) : Instr.sameBits n x' x = true := by
  cases k <;> simp [keyV] at h <;> split at h <;> (try cases h) <;> cases hx <;> cases k' <;> simp [keyV] at h' <;> cases hx' <;> simp_all [Instr.sameBits, eqKey, ba_beq]

theorem mapUpdV_rel {P : Program} {ρ : Rho} {m m' : Mem} {w : World} (hm : MR ρ m w) {t : TypeId} {mv k v : V} {mx kx vx : Value} (h : mapUpdV P t mv k v m = some m') (hmx : VR ρ mv mx) (hkx : VR ρ k kx) (hvx : VR ρ v vx) :
    ∃ w', (Instr.mapUpdate t mx kx vx).run P w = .ok () w' ∧ Nxt ρ m w ρ m' w' := by
  unfold mapUpdV at h
  split at h
  case h_2 => cases h
  rename_i kt et r hu
  split at h
  case h_2 => cases h
  rename_i d es hk hg
  split at h
  case isFalse => cases h
  rename_i hc
  simp only [Bool.and_eq_true, List.all_eq_true] at hc
  cases hmx with
  | map _ e hr =>
    obtain ⟨E, clk, h1, h2⟩ := mapOf_rel hm hr hg
    have hck : (Instr.checkKey false 10000 kt kx).run P w = .ok () w := run_checkKey hk (keyV_isKey hc.1 hkx) false 9999
    have hf := findE_rel hc.1 hkx 0 h2 (fun p hp => hc.2 p hp)
    split at hf
    · rename_i heq
      rw [heq] at h
      cases h
      have hw : Wrote w _ e.cb (.map (E.push { key := kx, val := vx, born := clk }) (clk + 1)) := Wrote.setObj h1
      refine ⟨_, ?_, Nxt.setmap hm hr hg hw (by simpa using h2.append (.cons k v ⟨kx, vx, clk⟩ _ _ hkx hvx .nil))⟩
      simp [Instr.mapUpdate, run_underlying hu, run_getObj_map h1, hck, run_findKey hk hf, run_setObj_map _ h1]
    · rename_i j u heq
      rw [heq] at h
      cases h
      obtain ⟨y, h3, h4, _, k2, h5, h6⟩ := hf
      simp only [Nat.sub_zero] at h5
      obtain ⟨en, h7, h8, _⟩ := h2.get h5
      have hk2 : keyV d k2 = true := hc.2 _ (List.mem_of_getElem? h5)
      have hsb := sameBits_rel hc.1 hk2 hkx h8 h6 10000
      have h7' : E[j]? = some en := by simpa using h7
      have hw : Wrote w _ e.cb (.map (E.modify j fun e => { e with key := kx, val := vx }) clk) := Wrote.setObj h1
      refine ⟨_, ?_, Nxt.setmap hm hr hg hw (by rw [Array.toList_modify]; exact ERs.setE (fun _ => ⟨hkx, hvx⟩) j h2 (List.getElem?_eq_some_iff.1 h5).1)⟩
      simp [Instr.mapUpdate, run_underlying hu, run_getObj_map h1, hck, run_findKey hk h3, h7', Instr.keyThatStays, hsb, run_setObj_map _ h1]

def delV (P : Program) (t : TypeId) (mv k : V) (m : Mem) : Option Mem :=
  match P.underlying t, mv with
  | some (.map kt _), .map r =>
    match P.underlying kt, m.get r with
    | some d, some (.map es) =>
      if keyV d k && es.all (fun p => keyV d p.1) then
        match findE k es 0 with
        | some (i, _) => some (m.set r (.map (es.eraseIdx i)))
        | none => some (m.set r (.map es))
      else none
    | _, _ => none
  | _, _ => none

theorem delV_rel {P : Program} {ρ : Rho} {m m' : Mem} {w : World} (hm : MR ρ m w) {t ty kty : TypeId} {mv k : V} {mx kx : Value} (h : delV P t mv k m = some m') (hmx : VR ρ mv mx) (hkx : VR ρ k kx) :
    Gives P ρ m w (Builtin.delete_ #[t, kty] ty #[mx, kx]) (.tup []) m' := by
  unfold delV at h
  split at h
  case h_2 => cases h
  rename_i kt et r hu
  split at h
  case h_2 => cases h
  rename_i d es hk hg
  split at h
  case isFalse => cases h
  rename_i hc
  simp only [Bool.and_eq_true, List.all_eq_true] at hc
  cases hmx with
  | map _ e hr =>
    obtain ⟨E, clk, h1, h2⟩ := mapOf_rel hm hr hg
    have hck : ∀ b, (Instr.checkKey b 10000 kt kx).run P w = .ok () w := fun b => run_checkKey hk (keyV_isKey hc.1 hkx) b 9999
    have hf := findE_rel hc.1 hkx 0 h2 (fun p hp => hc.2 p hp)
    split at hf
    · rename_i heq
      rw [heq] at h
      cases h
      have hw : Wrote w _ e.cb (.map E clk) := Wrote.setObj h1
      refine ⟨.tuple #[], ρ, _, ?_, Nxt.setmap hm hr hg hw h2, .tup _ _ .nil⟩
      simp [Builtin.delete_, run_underlying hu, run_getObj_map h1, hck, run_findKey hk hf, run_setObj_map _ h1]
    · rename_i j u heq
      rw [heq] at h
      cases h
      obtain ⟨y, h3, h4, _, k2, h5, h6⟩ := hf
      simp only [Nat.sub_zero] at h5
      have hj : j < E.size := by have q1 := h2.length; have q2 := (List.getElem?_eq_some_iff.1 h5).1; rw [q1] at q2; simpa using q2
      have hw : Wrote w _ e.cb (.map (E.eraseIdxIfInBounds j) clk) := Wrote.setObj h1
      refine ⟨.tuple #[], ρ, _, ?_, Nxt.setmap hm hr hg hw ?_, .tup _ _ .nil⟩
      · simp [Builtin.delete_, run_underlying hu, run_getObj_map h1, hck, run_findKey hk h3, run_setObj_map _ h1]
      · have : (E.eraseIdxIfInBounds j).toList = E.toList.eraseIdx j := by
          unfold Array.eraseIdxIfInBounds
          rw [dif_pos hj, Array.toList_eraseIdx]
        rw [this]
        exact h2.eraseIdx j

def makeMapV (m : Mem) : V × Mem := (.map m.size, m.push (.map []))

theorem makeMapV_rel {P : Program} {ρ : Rho} {m : Mem} {w : World} (hm : MR ρ m w) {t : TypeId} : Gives P ρ m w (Instr.makeMap t none) (makeMapV m).1 (makeMapV m).2 := by
  have hn := Nxt.new_map (es := []) hm (Grew.alloc w (.map #[] 0)) .nil
  exact ⟨.map (some w.heap.size), _, _, rfl, hn, .map m.size ⟨w.heap.size, 0, 0, 1⟩ (Rho.put_same _ _ _)⟩

/-! append and copy -/

def srcV (m : Mem) (size : Nat) : V → Option (Nat × List V)
  | .nils => some (0, [])
  | .slc b off len _ sz => if sz = size then (cells m b off (len * size)).map (len, ·) else none
  | .str s => if size = 1 then some (s.length, s.map fun b => .int .u8 (b.toNat : Int)) else none
  | _ => none

theorem srcV_length {m : Mem} {size n : Nat} {l : List V} {x : V} (h : srcV m size x = some (n, l)) : l.length = n * size := by
  unfold srcV at h
  split at h
  · cases h; simp
  · split at h
    · rename_i b off len cap sz hs
      cases hc : cells m b off (len * size) with
      | none => simp [hc] at h
      | some l' =>
        simp [hc] at h; obtain ⟨rfl, rfl⟩ := h
        unfold cells at hc
        split at hc
        · split at hc
          · cases hc; simp; omega
          · cases hc
        · cases hc
    · cases h
  · split at h
    · cases h; simp_all
    · cases h
  · cases h

/-- What is appended, or copied. -/
theorem srcV_rel {P : Program} {ρ : Rho} {m : Mem} {w : World} (hm : MR ρ m w) {size n : Nat} {l : List V} {v : V} {x : Value} (h : srcV m size v = some (n, l)) (hx : VR ρ v x) :
    (Builtin.lenOf x).run P w = .ok n w ∧ ∃ xs : List Value, VRs ρ l xs ∧ ∀ w' : World, (∀ a, w'.cell? a = w.cell? a) → (Builtin.firstCells size n x).run P w' = .ok xs.toArray w' := by
  unfold srcV at h
  split at h
  · cases h; cases hx
    exact ⟨rfl, [], .nil, fun w' _ => rfl⟩
  · rename_i b off len cap sz
    split at h
    case isFalse => cases h
    rename_i hs
    cases hc : cells m b off (len * size) with
    | none => simp [hc] at h
    | some l' =>
      simp [hc] at h; obtain ⟨rfl, rfl⟩ := h
      cases hx with
      | slc _ _ _ _ cap' _ e hb =>
        obtain ⟨xs, h1, h2, _, h4⟩ := cells_rel (P := P) hm hb hc
        refine ⟨rfl, xs, h2, fun w' hw' => ?_⟩
        have := run_loadCells_list (P := P) w' ⟨e.cb, e.base + off, none⟩ xs (fun j v hv => by rw [Addr.add_none, hw']; exact h4 j v hv)
        rw [h1] at this
        exact this
      | slc0 _ _ _ e a hb =>
        obtain ⟨xs, h1, h2, _, h4⟩ := cells_rel (P := P) hm hb hc
        have h0 : xs = [] := List.length_eq_zero_iff.1 (by rw [h1]; simp)
        refine ⟨rfl, xs, h2, fun w' _ => ?_⟩
        rw [h0]; simp [Builtin.firstCells, loadCells, loadCellsFrom]
  · rename_i s
    split at h
    · cases h; cases hx
      have hsz : (⟨s.toArray⟩ : ByteArray).size = s.length := by simp [ByteArray.size]
      refine ⟨by simp [Builtin.lenOf]; exact hsz, s.map fun b => Value.int .u8 (b.toNat : Int), ?_, fun w' _ => ?_⟩
      · induction s with
        | nil => exact .nil
        | cons b s ih => exact .cons _ _ _ _ (.int _ _) (ih (by simp [ByteArray.size]))
      · simp only [Builtin.firstCells, Sem.run_pure, ba_extract]
        simp
    · cases h
  · cases h

def capOf : V → Option (Nat × Nat)
  | .nils => some (0, 0)
  | .slc _ _ len cap _ => some (len, cap)
  | _ => none

def textOrSlice : TypeDesc → Bool
  | .string | .slice _ => true
  | _ => false

/-- A new row. -/
def Mem.row (m : Mem) (el : TypeId) (l : List V) : Mem := (m.push (.cells l)).tag ⟨m.size, el, none⟩
/-- A new row, or one that lies where another one lay. -/
def Mem.rowIf (m : Mem) (t : Tag) (el : TypeId) (l : List V) : Mem := if m.tagged t then m.row el l else m.push (.cells l)

def appendV (P : Program) (t1 t2 : TypeId) (s x : V) (m : Mem) : Option (V × Mem) :=
  match P.underlying t1, P.underlying t2 with
  | some (.slice el), some d2 =>
    if textOrSlice d2 = false then none else
    match szT P el, zeroCells P el, (P.info? el).map (·.bytes) with
    | some size, some z, some by_ =>
      if z.length = size ∧ 0 < size ∧ 0 < by_ then
        match srcV m size x, srcV m size s, s with
        | some (n, new), some (len, old), s =>
          if new.all V.one = true then
            match s with
            | .nils => if n = 0 then some (.nils, m) else
              if n * by_ ≤ 140737488355328 then some (.slc m.size 0 n n size, m.row el new) else none
            | .slc b off _ cap sz =>
              if len + n ≤ cap then
                if new.isEmpty then some (.slc b off len cap sz, m) else
                match m.wr b with
                | some c => if off + len * size + new.length ≤ c.length then some (.slc b off (len + n) cap sz, m.set b (.cells (splice c (off + len * size) new))) else none
                | none => none
              else if (len + n) * by_ ≤ 140737488355328 then
                match m.get b with
                | some (.cells c) =>
                  some (.slc m.size 0 (len + n) (len + n) size, if off + cap * size = c.length then (m.set b .dead).rowIf ⟨b, el, none⟩ el (old ++ new) else m.row el (old ++ new))
                | some (.ro _) => some (.slc m.size 0 (len + n) (len + n) size, m.row el (old ++ new))
                | _ => none
              else none
            | _ => none
          else none
        | _, _, _ => none
      else none
    | _, _, _ => none
  | _, _ => none

theorem run_append_grow' {P : Program} {w : World} {t1 t2 ty el : TypeId} {d2 : TypeDesc} {i : TypeInfo} {z : Value} {base : Option Addr} {sLen sCap n : Nat} {x : Value} {olds news : List Value}
    (h1 : P.underlying t1 = some (.slice el)) (h2 : P.underlying t2 = some d2) (hd : d2 = .string ∨ ∃ e, d2 = .slice e) (hi : P.info? el = some i) (hz : i.zero = some z) (hb : 0 < i.bytes)
    (hl : (Builtin.lenOf x).run P w = .ok n w) (hn : (Builtin.firstCells i.size n x).run P w.drew = .ok news.toArray w.drew) (ho : (Builtin.firstCells i.size sLen (.slice base sLen sCap)).run P w.drew = .ok olds.toArray w.drew)
    (hg : sCap < sLen + n) (hfit : (sLen + n) * i.bytes ≤ 140737488355328) :
    (Builtin.append_ #[t1, t2] ty #[.slice base sLen sCap, x]).run P w =
      .ok (.slice (some ⟨w.heap.size, 0, none⟩) (sLen + n) (grownCap w (sLen + n) sCap el))
        (w.drew.alloc (.cells ((olds ++ news).toArray ++ Builtin.zeroCells z.cells (grownCap w (sLen + n) sCap el - (sLen + n))) el)) := by
  have hn' : ¬ (sLen + n ≤ sCap) := by omega
  have h48' : ¬ (281474976710656 < Builtin.nextslicecap (sLen + n) sCap * i.bytes) := by
    have := growslice_fits (bytes := i.bytes) hg hfit; omega
  have hb' : ¬ (i.bytes = 0) := by omega
  rcases hd with rfl | ⟨e, rfl⟩ <;>
    simp [Builtin.append_, run_underlying h1, run_underlying h2, Go.sizeOf, typeInfo, zeroValue, hi, hz, hl, hn', h48', hb', Question.forced, hn, ho, newRow, grownCap] <;>
    (congr 2; apply Array.ext'; simp [List.append_assoc])

theorem run_append_room' {P : Program} {w : World} {t1 t2 ty el : TypeId} {d2 : TypeDesc} {i : TypeInfo} {base : Option Addr} {sLen sCap n : Nat} {x : Value} {news : List Value}
    (h1 : P.underlying t1 = some (.slice el)) (h2 : P.underlying t2 = some d2) (hd : d2 = .string ∨ ∃ e, d2 = .slice e) (hi : P.info? el = some i)
    (hl : (Builtin.lenOf x).run P w = .ok n w) (hn : (Builtin.firstCells i.size n x).run P w = .ok news.toArray w) (hg : sLen + n ≤ sCap) :
    (Builtin.append_ #[t1, t2] ty #[.slice base sLen sCap, x]).run P w =
      ((match base with | some a => storeCells (a.add (sLen * i.size)) news | none => pure () : Sem Unit).run P w).andThen fun _ w' => .ok (.slice base (sLen + n) sCap) w' := by
  rcases hd with rfl | ⟨e, rfl⟩ <;> cases base <;>
    simp [Builtin.append_, run_underlying h1, run_underlying h2, Go.sizeOf, typeInfo, hi, hl, hg, hn]

theorem grownCap_le (w : World) (need old : Nat) (el : TypeId) : need ≤ grownCap w need old el := by
  unfold grownCap Question.cut
  simp

theorem zeroCells_size (z : Array Value) (n : Nat) : (Builtin.zeroCells z n).size = n * z.size := by simp [Builtin.zeroCells]

theorem appendV_rel {P : Program} {ρ : Rho} {m m' : Mem} {w : World} (hm : MR ρ m w) {t1 t2 ty : TypeId} {s x v : V} {sv xv : Value} (h : appendV P t1 t2 s x m = some (v, m')) (hs : VR ρ s sv) (hx : VR ρ x xv) :
    Gives P ρ m w (Builtin.append_ #[t1, t2] ty #[sv, xv]) v m' := by
  unfold appendV at h
  split at h
  case h_2 => cases h
  rename_i el d2 hu1 hu2
  split at h
  case isTrue => cases h
  rename_i hd0
  have hd : d2 = .string ∨ ∃ e, d2 = .slice e := by cases d2 <;> simp [textOrSlice] at hd0 <;> simp
  split at h
  case h_2 => cases h
  rename_i size z by_ hsz hz hby
  split at h
  case isFalse => cases h
  rename_i hc
  obtain ⟨c1, c2, c3⟩ := hc
  split at h
  case h_2 => cases h
  rename_i n new len old hsrc hold
  split at h
  case isFalse => cases h
  rename_i hone
  obtain ⟨i, hi, hib, his⟩ : ∃ i, P.info? el = some i ∧ i.bytes = by_ ∧ i.size = size := by
    unfold szT at hsz
    cases hi : P.info? el with
    | none => simp [hi] at hby
    | some i => simp [hi] at hby hsz; exact ⟨i, rfl, hby, hsz⟩
  subst hib his
  obtain ⟨zv, hzv, hzl⟩ : ∃ zv, i.zero = some zv ∧ zv.cells.size = i.size := by
    unfold Sim.zeroCells at hz
    cases hzz : i.zero with
    | none => simp [hi, hzz] at hz
    | some zv =>
      simp [hi, hzz] at hz
      have := (csts_rel ρ hz).length
      simp at this
      exact ⟨zv, rfl, by omega⟩
  obtain ⟨hlen, xs, hxs, hfc⟩ := srcV_rel (P := P) hm hsrc hx
  obtain ⟨_, os, hos, hfo⟩ := srcV_rel (P := P) hm hold hs
  have hnl := srcV_length hsrc
  have hol := srcV_length hold
  have hxl := hxs.length
  have hosl := hos.length
  have hgrow : ∀ (base : Option Addr) (sCap : Nat), (∀ w' : World, (∀ a, w'.cell? a = w.cell? a) → (Builtin.firstCells i.size len (.slice base len sCap)).run P w' = .ok os.toArray w') → sCap < len + n → (len + n) * i.bytes ≤ 140737488355328 →
      ∀ m1, Nxt ρ m w ρ m1 w → m1.size = m.size → ∀ tg : Bool, Gives P ρ m w (Builtin.append_ #[t1, t2] ty #[.slice base len sCap, xv]) (.slc m.size 0 (len + n) (len + n) i.size) (if tg = true then m1.row el (old ++ new) else m1.push (.cells (old ++ new))) := by
    intro base sCap hfo' hg hfit m1 hn1 hs1 tg
    have hrun := run_append_grow' (ty := ty) hu1 hu2 hd hi hzv c3 hlen (hfc w.drew (fun _ => rfl)) (hfo' w.drew (fun _ => rfl)) hg hfit
    have hcap := grownCap_le w (len + n) sCap el
    generalize grownCap w (len + n) sCap el = G at hrun hcap
    let C : Array Value := (os ++ xs).toArray ++ Builtin.zeroCells zv.cells (G - (len + n))
    have hCs : C.size = G * i.size := by
      simp only [C, Array.size_append, List.size_toArray, List.length_append, zeroCells_size, hzl]
      rw [← hosl, ← hxl, hol, hnl, ← Nat.add_mul, ← Nat.add_mul]
      congr 1; omega
    have hnew := Nxt.new_cells (c := old ++ new) (C := C) (el := el) (fz := (0, 0)) hn1.mr (Grew.drew_alloc w (.cells C el)) (.inl rfl)
      (by
        have : C.toList.take (old ++ new).length = os ++ xs := by
          simp only [C, Array.toList_append, List.length_append]
          rw [List.take_append_of_le_length (by simp; omega), List.take_of_length_le (by simp; omega)]
        rw [this]; exact hos.append hxs)
      (by rw [hCs, List.length_append, hol, hnl, ← Nat.add_mul]; exact Nat.mul_le_mul_right _ hcap)
    rw [hs1] at hnew
    have hnew2 : Nxt ρ m w (ρ.put m.size ⟨w.heap.size, 0, (old ++ new).length, C.size⟩) (if tg = true then m1.row el (old ++ new) else m1.push (.cells (old ++ new))) (w.drew.alloc (.cells C el)) := by
      cases tg with
      | false => exact hn1.trans hnew
      | true =>
        rw [if_pos rfl]
        refine Nxt.tag (hn1.trans hnew) ⟨m1.size, el, none⟩ (by simp) fun e he => ?_
        simp only [hs1] at he
        rw [Rho.put_same] at he; cases he
        exact ⟨C, _, (Grew.drew_alloc w (.cells C el)).new, fun s hs => by cases hs⟩
    refine ⟨_, _, _, hrun, hnew2, ?_⟩
    have := VR.slc (ρ := ρ.put m.size ⟨w.heap.size, 0, (old ++ new).length, C.size⟩) m.size 0 (len + n) (len + n) G i.size _ (Rho.put_same _ _ _) (Nat.le_refl _) hcap
      (by simp [hol, hnl, Nat.add_mul]) (fun _ => by simp [hol, hnl, Nat.add_mul]) (by simp [hCs])
    simpa using this
  split at h
  · -- a nil slice
    cases hs
    simp only [srcV, Option.some.injEq, Prod.mk.injEq] at hold
    obtain ⟨rfl, rfl⟩ := hold
    split at h
    · cases h
      rename_i hn0; subst hn0
      refine ⟨.slice none 0 0, ρ, w, ?_, .refl hm, .nils⟩
      have := run_append_room' (ty := ty) (base := none) (sLen := 0) (sCap := 0) hu1 hu2 hd hi hlen (hfc w (fun _ => rfl)) (by omega)
      simpa using this
    · rename_i hn0
      split at h
      case isFalse => cases h
      rename_i hfit
      cases h
      have := hgrow none 0 hfo (by omega) (by simpa using hfit) m (.refl hm) rfl true
      simpa using this
  · rename_i b off len0 cap sz
    have hsz' : sz = i.size := by
      unfold srcV at hold
      split at hold <;> simp_all
    have hlen0 : len0 = len := by
      unfold srcV at hold
      split at hold <;> simp_all
    subst hsz' hlen0
    split at h
    · rename_i hroom
      split at h
      · cases h
        rename_i hemp
        have hn0 : n = 0 := by
          have : new = [] := by simpa using hemp
          subst this
          simp only [List.length_nil] at hnl
          rcases Nat.eq_zero_or_pos n with h | h
          · exact h
          · have := Nat.mul_le_mul h c2; omega
        have hx0 : xs = [] := by
          have : new = [] := by simpa using hemp
          subst this
          exact List.length_eq_zero_iff.1 (by simpa using hxl.symm)
        subst hn0 hx0
        cases hs with
        | slc _ _ _ _ cap' _ e hb hl hcc hn hxx he =>
          refine ⟨.slice (some ⟨e.cb, e.base + off, none⟩) len0 cap', ρ, w, ?_, .refl hm, .slc b off len0 cap cap' _ e hb hl hcc hn hxx he⟩
          have := run_append_room' (ty := ty) (base := some ⟨e.cb, e.base + off, none⟩) (sLen := len0) (sCap := cap') hu1 hu2 hd hi hlen (hfc w (fun _ => rfl)) (by omega)
          simpa [storeCells] using this
        | slc0 _ _ _ e a hb hn =>
          refine ⟨.slice (some a) 0 0, ρ, w, ?_, .refl hm, .slc0 b off _ e a hb hn⟩
          have := run_append_room' (ty := ty) (base := some a) (sLen := 0) (sCap := 0) hu1 hu2 hd hi hlen (hfc w (fun _ => rfl)) (by omega)
          simpa [storeCells] using this
      · rename_i hemp
        split at h
        case h_2 => cases h
        rename_i c hwc
        split at h
        case isFalse => cases h
        rename_i hle
        cases h
        cases hs with
        | slc _ _ _ _ cap' _ e hb hl hcc hn hxx he =>
          obtain ⟨w', r1, r2⟩ := write_rel (P := P) (off := off + len0 * i.size) (l := new) hm hb hwc hle hxs hone
          refine ⟨.slice (some ⟨e.cb, e.base + off, none⟩) (len0 + n) cap', ρ, w', ?_, r2, .slc b off (len0 + n) cap cap' _ e hb hroom hcc hn hxx he⟩
          have := run_append_room' (ty := ty) (base := some ⟨e.cb, e.base + off, none⟩) (sLen := len0) (sCap := cap') hu1 hu2 hd hi hlen (hfc w (fun _ => rfl)) (by omega)
          rw [this]
          simp only [Addr.add_none, Nat.add_assoc, r1, Result.andThen_ok]
        | slc0 =>
          have hn0 : n = 0 := by omega
          subst hn0
          simp at hnl
          exact absurd (by simp [hnl]) hemp
    · rename_i hnroom
      split at h
      case isFalse => cases h
      rename_i hfit
      split at h
      · rename_i c hgc
        cases h
        have hwc : m.wr b = some c := by unfold Mem.wr; rw [hgc]
        by_cases hopen : off + cap * i.size = c.length
        · rw [if_pos hopen]
          cases hs with
          | slc _ _ _ _ cap' _ e hb hl hcc hn hxx he =>
            by_cases hin : len0 + n ≤ cap'
            · -- there is room in the model
              have hbr : BlkR ρ e w (some (.cells c)) := by have := hm.blk b e hb; rwa [hgc] at this
              obtain ⟨C, el', fz, h1, h2, h3⟩ := hbr
              obtain ⟨q1, q2, q3, q4⟩ := h2
              have e1 : (len0 + n) * i.size ≤ cap' * i.size := Nat.mul_le_mul_right _ hin
              have e2 : len0 * i.size ≤ cap * i.size := Nat.mul_le_mul_right _ hl
              rw [Nat.add_mul] at e1
              obtain ⟨w', C', r1, r2, r3, r4⟩ := storeCells_run (P := P) e.cb (e.base + (off + len0 * i.size)) el' fz xs 0 w C h1 (by omega) (fun j h4 h5 => h3.out j (by omega) (by omega)) (hxs.one hone)
              have hnx := Nxt.extend (c' := old ++ new) hm hb hwc h1 r2 r3 (fun j hj => by rw [r4, if_neg (by omega)]) (e.base + off) (e.ext - off) (by omega) (by omega)
                ⟨rfl, by simp; omega, by rw [r3]; simp; omega, fun j v hv => by
                  rw [r4]
                  by_cases hj : j < old.length
                  · rw [List.getElem?_append_left hj] at hv
                    rw [if_neg (by simp; omega)]
                    have hcold : cells m b off (len0 * i.size) = some old := by
                      simp [srcV] at hold; exact hold
                    unfold cells at hcold
                    have hrd : m.rd b = some c := by unfold Mem.rd; rw [hgc]; rfl
                    rw [hrd] at hcold
                    simp only at hcold
                    split at hcold
                    · cases hcold
                      rw [List.getElem?_take] at hv
                      split at hv
                      · rw [List.getElem?_drop] at hv
                        have := q4 _ _ hv
                        simpa [Nat.add_assoc] using this
                      · cases hv
                    · cases hcold
                  · have hj' : old.length ≤ j := by omega
                    rw [List.getElem?_append_right hj'] at hv
                    have hjl := (List.getElem?_eq_some_iff.1 hv).1
                    rw [if_pos (by simp; omega)]
                    obtain ⟨y, hy, r⟩ := hxs.get hv
                    exact ⟨y, by rw [← hy]; congr 1; simp; omega, r⟩⟩
              have hnx2 : Nxt ρ m w (ρ.put m.size ⟨e.cb, e.base + off, (old ++ new).length, e.ext - off⟩) ((m.set b .dead).rowIf ⟨b, el, none⟩ el (old ++ new)) w' := by
                unfold Mem.rowIf
                by_cases htg : (m.set b .dead).tagged ⟨b, el, none⟩ = true
                · rw [if_pos htg]
                  have htm : (⟨b, el, none⟩ : Tag) ∈ m.ty := by rw [Mem.tagged_iff] at htg; exact htg
                  obtain ⟨D, fz', hd1, _⟩ := (hm.ty _ htm).2 e hb
                  rw [h1] at hd1; cases hd1
                  refine Nxt.tag hnx ⟨(m.set b .dead).size, el, none⟩ (by simp) fun e' he' => ?_
                  simp only [Mem.size_set] at he'
                  rw [Rho.put_same] at he'; cases he'
                  exact ⟨C', fz, r2.new, fun s hs => by cases hs⟩
                · rw [if_neg htg]; exact hnx
              refine ⟨.slice (some ⟨e.cb, e.base + off, none⟩) (len0 + n) cap', _, w', ?_, hnx2, ?_⟩
              · have := run_append_room' (ty := ty) (base := some ⟨e.cb, e.base + off, none⟩) (sLen := len0) (sCap := cap') hu1 hu2 hd hi hlen (hfc w (fun _ => rfl)) hin
                rw [this]
                simp only [Addr.add_none, Nat.add_assoc, r1, Result.andThen_ok]
              · have := VR.slc (ρ := ρ.put m.size ⟨e.cb, e.base + off, (old ++ new).length, e.ext - off⟩) m.size 0 (len0 + n) (len0 + n) cap' i.size _ (Rho.put_same _ _ _) (Nat.le_refl _) hin
                  (by simp [hol, hnl, Nat.add_mul]) (fun _ => by simp [hol, hnl, Nat.add_mul]) (by simp; omega)
                simpa using this
            · exact hgrow _ cap' hfo (by omega) hfit _ (Nxt.kill b hm) (by simp) ((m.set b .dead).tagged ⟨b, el, none⟩)
          | slc0 _ _ _ e a hb hn =>
            exact hgrow _ 0 hfo (by omega) hfit _ (Nxt.kill b hm) (by simp) ((m.set b .dead).tagged ⟨b, el, none⟩)
        · rw [if_neg hopen]
          cases hs with
          | slc _ _ _ _ cap' _ e hb hl hcc hn hxx he =>
            have hbr : BlkR ρ e w (some (.cells c)) := by have := hm.blk b e hb; rwa [hgc] at this
            obtain ⟨C, el', fz, h1, h2, h3⟩ := hbr
            have q1 := h2.1
            have : ¬ cap < cap' := fun hlt => hopen (by rw [hxx hlt]; exact q1.symm)
            exact hgrow _ cap' hfo (by omega) hfit _ (.refl hm) rfl true
          | slc0 _ _ _ e a hb hn =>
            exact hgrow _ 0 hfo (by omega) hfit _ (.refl hm) rfl true
      · rename_i c hgc
        cases h
        cases hs with
        | slc _ _ _ _ cap' _ e hb hl hcc hn hxx he =>
          have hbr : BlkR ρ e w (some (.ro c)) := by have := hm.blk b e hb; rwa [hgc] at this
          obtain ⟨C, el', fz, h1, h2, h3⟩ := hbr
          have : ¬ cap < cap' := fun hlt => by
            have := hxx hlt
            have : (cap + 1) * i.size ≤ cap' * i.size := Nat.mul_le_mul_right _ hlt
            rw [Nat.add_mul] at this
            omega
          exact hgrow _ cap' hfo (by omega) hfit _ (.refl hm) rfl true
        | slc0 _ _ _ e a hb hn =>
          exact hgrow _ 0 hfo (by omega) hfit _ (.refl hm) rfl true
      · cases h
  · cases h

end Sim
