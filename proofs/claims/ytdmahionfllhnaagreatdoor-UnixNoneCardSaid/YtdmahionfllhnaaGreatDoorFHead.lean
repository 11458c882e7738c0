/-
  This seat's program, the calls that are taken by what is known of them, and what the two awake calls come to. No condition.
-/
import Derived.Test.YtdmahionfllhnaaGreatDoorProg
import Derived.Test.YtdmahionfllhnaaGreatDoorSimE
import Derived.Test.YtdmahionfllhnaaGreatDoorSimB
set_option linter.unusedVariables false
set_option maxRecDepth 100000
namespace Sim
open Go
noncomputable abbrev PP : Program := Go.Proofs.Tryz.prog
def EE : EqT := fun t => match t with
  | 67 => some [.i, .i, .s]
  | 70 => some [.i, .i, .i, .s, .s]
  | 222 => some [.i, .i]
  | 340 => some [.b, .b, .b, .b]
  | _ => none
theorem EE_le (t : Nat) (ks : List Lf) (h : EE t = some ks) : leafsE PP t = some ks := by
  unfold EE at h
  split at h
  · cases h; kernel_rfl
  · cases h; kernel_rfl
  · cases h; kernel_rfl
  · cases h; kernel_rfl
  · cases h
theorem EE_ok : EqOk PP EE := fun t ks h => leafsE_ok PP t ks (EE_le t ks h)

def OV0 : OvT := fun g => match g with
  | 280 => some indexByteF
  | 284 => some countByteF
  | 298 => some sameF
  | _ => none
theorem ok280 : OneOk PP 280 indexByteF := indexByte_ok (P := PP) (g := 280) (fn := Go.Proofs.Tryz.f280) Go.Proofs.Tryz.func280 (by kernel_rfl) (by kernel_rfl) (by kernel_rfl) (by kernel_rfl)
theorem ok284 : OneOk PP 284 countByteF := countByte_ok (P := PP) (g := 284) (fn := Go.Proofs.Tryz.f284) Go.Proofs.Tryz.func284 (by kernel_rfl) (by kernel_rfl) (by kernel_rfl) (by kernel_rfl)
theorem ok298 : OneOk PP 298 sameF := same_ok (P := PP) (g := 298) (fn := Go.Proofs.Tryz.f298) Go.Proofs.Tryz.func298 (by kernel_rfl) (by kernel_rfl) (by kernel_rfl) (by kernel_rfl)
theorem OV0_ok : OvOk PP OV0 := .of fun g F h => by
  unfold OV0 at h
  split at h
  · cases h; exact ok280
  · cases h; exact ok284
  · cases h; exact ok298
  · cases h

theorem mixed : PP.follows .mixedOrders = true := by kernel_rfl

/-- A call of no arguments that comes to true wherever it is called. -/
def awakeF : List V → Mem → Option (V × Mem)
  | [], m => some (.bool true, m)
  | _, _ => none

theorem awake_of {g k : Nat} {fn : Func} {c : Code} (hf : PP.funcs[g]? = some fn) (hname : (fn.name == "runtime.NumGoroutine") = false) (hb : fn.body = some c) (ho : OV0 g = none)
    (h : (evCall PP EE OV0 k g [] Mem.nil).map (·.1) = some (.bool true)) : OneOk PP g awakeF := by
  intro args m v m' ha ρ w xs hm hx
  cases args with
  | cons _ _ => cases ha
  | nil =>
    cases ha
    generalize hxl : xs.toList = l at hx
    cases hx
    have hxs : xs = #[] := by apply Array.ext'; simpa using hxl
    subst hxs
    refine leads_enter hf hname hb ?_
    obtain ⟨r, hr, h2⟩ := omap h
    obtain ⟨v, m1⟩ := r
    cases h2
    have hc := calls_of PP EE OV0 EE_ok mixed OV0_ok (K := fun v _ => v = .bool true) ho ⟨k, _, m1, hr, rfl⟩ (MR.nil w) (xs := #[]) .nil
    refine Calls.mono hc fun e w' hp => ?_
    obtain ⟨x, rfl, ρ', v', m2, hn, hv, rfl⟩ := hp
    refine ⟨x, rfl, ρ, ?_, ?_⟩
    · have hno : ∀ cb, ¬ Own (fun _ => none) Mem.nil cb := fun cb ⟨b, e, hb, _⟩ => by cases hb
      have hold : ∀ cb, cb < w.heap.size → w'.heap[cb]? = w.heap[cb]? := fun cb hcb => hn.frame cb hcb (hno cb)
      refine ⟨⟨fun b e hb => (hm.blk b e hb).of_heap (hold _ (hm.cb b e hb)), fun b e hb => Nat.lt_of_lt_of_le (hm.cb b e hb) hn.size, hm.sep, fun t ht => ⟨(hm.ty t ht).1, fun e he => ?_⟩, hm.gl⟩, fun _ _ => rfl, Nat.le_refl _, hn.os, hn.tape, hn.output, hn.size, fun cb hcb _ => hold cb hcb, fun _ _ h => h⟩
      obtain ⟨C, fz, q1, q2⟩ := (hm.ty t ht).2 e he
      exact ⟨C, fz, (hold _ (hm.cb _ e he)).trans q1, q2⟩
    · cases hv; exact .bool _

theorem awake24_run : (evCall PP EE OV0 60 15 [] Mem.nil).map (·.1) = some (.bool true) := by kernel_rfl
theorem awake27_run : (evCall PP EE OV0 60 38 [] Mem.nil).map (·.1) = some (.bool true) := by kernel_rfl

theorem ok15 : OneOk PP 15 awakeF := awake_of (g := 15) (k := 60) (fn := Go.Proofs.Tryz.f15) (c := bodyOf Go.Proofs.Tryz.f15) Go.Proofs.Tryz.func15 (by kernel_rfl) (by kernel_rfl) rfl awake24_run
theorem ok38 : OneOk PP 38 awakeF := awake_of (g := 38) (k := 60) (fn := Go.Proofs.Tryz.f38) (c := bodyOf Go.Proofs.Tryz.f38) Go.Proofs.Tryz.func38 (by kernel_rfl) (by kernel_rfl) rfl awake27_run

def OV : OvT := fun g => match g with
  | 15 => some awakeF
  | 38 => some awakeF
  | 280 => some indexByteF
  | 284 => some countByteF
  | 298 => some sameF
  | _ => none
theorem OV_ok : OvOk PP OV := .of fun g F h => by
  unfold OV at h
  split at h
  · cases h; exact ok15
  · cases h; exact ok38
  · cases h; exact ok280
  · cases h; exact ok284
  · cases h; exact ok298
  · cases h

end Sim
