/-
  Lemmas of this claim's own: calls of functions of no Go text, over abstract memory. No condition.
-/
import Derived.Test.YtdmahionfllhnaaGreatDoorSim20
import Derived.Laws.Externs
import Derived.Lib.Bytealg
namespace Sim
open Go

/-- One override: what is said of a call is what the model's call comes to. -/
def OneOk (P : Program) (g : Nat) (F : List V → Mem → Option (V × Mem)) : Prop :=
  ∀ args m v m', F args m = some (v, m') → ∀ (ρ : Rho) (w : World) (xs : Array Value), MR ρ m w → VRs ρ args xs.toList →
    Leads P (callFunc g xs) w fun x w' => ∃ ρ', Nxt ρ m w ρ' m' w' ∧ VR ρ' v x

theorem OvOk.of {P : Program} {ov : OvT} (h : ∀ g F, ov g = some F → OneOk P g F) : OvOk P ov := fun g F hg => h g F hg

def sameF : List V → Mem → Option (V × Mem)
  | [v], m => some (v, m)
  | _, _ => none

def indexByteF : List V → Mem → Option (V × Mem)
  | [.str s, .int .u8 c], m => some (.int .i64 (Lib.indexByte s c.toNat.toUInt8), m)
  | _, _ => none
def countByteF : List V → Mem → Option (V × Mem)
  | [.str s, .int .u8 c], m => some (.int .i64 (Lib.countByte s c.toNat.toUInt8), m)
  | _, _ => none

theorem arr_one {α : Type} {xs : Array α} {x : α} (h : xs.toList = [x]) : xs = #[x] := by apply Array.ext'; simpa using h
theorem arr_two {α : Type} {xs : Array α} {x y : α} (h : xs.toList = [x, y]) : xs = #[x, y] := by apply Array.ext'; simpa using h

theorem leads_extern {P : Program} {g : FuncId} {fn : Func} {e : Array Value → Sem Value} (hf : P.funcs[g]? = some fn) (hname : (fn.name == "runtime.NumGoroutine") = false)
    (hb : fn.body.isNone = true) (hn : Extern.findNext fn = none) (he : Extern.find fn = some e) {xs : Array Value} {w w' : World} {x : Value} {R : Value → World → Prop} (hr : (e xs).run P w = .ok x w') (h : R x w') :
    Leads P (callFunc g xs) w R := by
  unfold Leads
  rw [run_callFunc_extern hf hname hb hn he, hr]
  exact h

theorem leads_enter {P : Program} {g : FuncId} {fn : Func} (hf : P.funcs[g]? = some fn) (hname : (fn.name == "runtime.NumGoroutine") = false) {c : Code} (hb : fn.body = some c)
    {xs : Array Value} {w : World} {R : Value → World → Prop} (h : Calls P g xs w fun e w' => ∃ x, e = .returned x ∧ R x w') : Leads P (callFunc g xs) w R := by
  have hrun : (callFunc g xs).run P w = .ok (.enter g xs) w := by
    unfold callFunc
    simp only [Sem.run_bind, run_program, Result.andThen_ok, hf, hname, hb]
    rfl
  unfold Leads
  rw [hrun]
  exact h

theorem same_ok {P : Program} {g : FuncId} {fn : Func} (hf : P.funcs[g]? = some fn) (hname : (fn.name == "runtime.NumGoroutine") = false)
    (hb : fn.body.isNone = true) (hn : Extern.findNext fn = none) (he : Extern.find fn = some Extern.AbiNoEscape.same) : OneOk P g sameF := by
  intro args m v m' h ρ w xs hm hx
  unfold sameF at h
  split at h
  · cases h
    generalize hxl : xs.toList = l at hx
    cases hx with
    | cons _ x _ _ hv t =>
      cases t
      have := arr_one hxl
      subst this
      exact leads_extern hf hname hb hn he (x := x) (w' := w) rfl ⟨ρ, .refl hm, hv⟩
  · cases h

theorem indexByte_ok {P : Program} {g : FuncId} {fn : Func} (hf : P.funcs[g]? = some fn) (hname : (fn.name == "runtime.NumGoroutine") = false)
    (hb : fn.body.isNone = true) (hn : Extern.findNext fn = none) (he : Extern.find fn = some Extern.BytealgIndexByte.indexByte) : OneOk P g indexByteF := by
  intro args m v m' h ρ w xs hm hx
  unfold indexByteF at h
  split at h
  · rename_i s c
    cases h
    generalize hxl : xs.toList = l at hx
    cases hx with
    | cons _ x _ _ hv t => cases t with
      | cons _ y _ _ hv2 t =>
        cases t; cases hv; cases hv2
        have := arr_two hxl
        subst this
        exact leads_extern hf hname hb hn he (Lib.run_indexByteString _ c w) ⟨ρ, .refl hm, .int _ _⟩
  · cases h

theorem countByte_ok {P : Program} {g : FuncId} {fn : Func} (hf : P.funcs[g]? = some fn) (hname : (fn.name == "runtime.NumGoroutine") = false)
    (hb : fn.body.isNone = true) (hn : Extern.findNext fn = none) (he : Extern.find fn = some Extern.BytealgCount.count) : OneOk P g countByteF := by
  intro args m v m' h ρ w xs hm hx
  unfold countByteF at h
  split at h
  · rename_i s c
    cases h
    generalize hxl : xs.toList = l at hx
    cases hx with
    | cons _ x _ _ hv t => cases t with
      | cons _ y _ _ hv2 t =>
        cases t; cases hv; cases hv2
        have := arr_two hxl
        subst this
        exact leads_extern hf hname hb hn he (Lib.run_countString _ c w) ⟨ρ, .refl hm, .int _ _⟩
  · cases h

end Sim
