/-
  From what a law's call comes to over abstract memory to its row's statement: the world of the witness, the arguments, the post. Conditions: none beyond the row's own.
-/
import Derived.Test.YtdmahionfllhnaaGreatDoorFLem
import Derived.Test.YtdmahionfllhnaaGreatDoorFLaid
import Derived.Test.YtdmahionfllhnaaGreatDoorCards
import Derived.Test.YtdmahionfllhnaaGreatDoorTie
import Derived.WalkKit
import Derived.ProofKit
import Derived.OpenShut
import Derived.Deep.DeepHandedRow
import Derived.Lib.LaidTab
set_option linter.unusedVariables false
set_option maxRecDepth 100000
namespace Go.Proofs.YtdmahionfllhnaaGreatDoor.ends
open Go Sim Go.ChangeShapes Go.WideShapes Go.ChangeAt Go.RowKit

theorem trodAll_stays {H : Type} {enc : TypeId × Value → H} {W W' : World} (hb : Below W.heap.size W W') : ∀ {ts : List TypeId} {vs : List Value} {ds : List (DataW H)} {ps : List MemPlace},
    (∀ t ∈ ts, PP.readableRec t = true ∧ t < PP.types.size) → DataW.TrodAll enc PP W 0 (fun _ => true) true ts vs ds ps → (∀ x ∈ ps, x.block < W.heap.size) →
    ∀ sp : Nat → Bool, (∀ p ∈ ps, sp p.block = true) → DataW.TrodAll enc PP W' 0 sp true ts vs ds ps
  | [], vs, ds, ps, _, h, _, sp, _ => by
    obtain ⟨rfl, rfl, rfl⟩ := trodAll_nil h
    exact rfl
  | t :: ts, vs, ds, ps, hr, h, hlt, sp, hsp => by
    obtain ⟨v, vs1, d, ds1, a, b, rfl, rfl, rfl, h1, h2⟩ := trodAll_cons h
    obtain ⟨r1, r2⟩ := hr t List.mem_cons_self
    exact ⟨a, b, WideElems.Trod_stays laidOut r1 r2 h1 (fun x hx => hb.same (hlt x (List.mem_append_left _ hx))) (fun x hx => hsp x (List.mem_append_left _ hx)),
      trodAll_stays hb (fun t ht => hr t (List.mem_cons_of_mem _ ht)) h2 (fun x hx => hlt x (List.mem_append_right _ hx)) sp (fun x hx => hsp x (List.mem_append_right _ hx)), rfl⟩

theorem trodAll_len {H : Type} {enc : TypeId × Value → H} {W : World} : ∀ {ts : List TypeId} {vs : List Value} {ds : List (DataW H)} {ps : List MemPlace}, DataW.TrodAll enc PP W 0 (fun _ => true) true ts vs ds ps → ds.length = ts.length
  | [], vs, ds, ps, h => by
    obtain ⟨rfl, rfl, rfl⟩ := trodAll_nil h
    rfl
  | t :: ts, vs, ds, ps, h => by
    obtain ⟨v, vs1, d, ds1, a, b, rfl, rfl, rfl, h1, h2⟩ := trodAll_cons h
    simp [trodAll_len h2]

theorem hcell {W : World} (hs : W.ShapedOpen PP) : ∃ (cb : Nat) (C : Array Value) (el : TypeId) (fz : Nat × Nat), W.heap[cb]? = some (.cells C el fz) := by
  obtain ⟨cs, h, _⟩ := hs.1 0 #[.int .i64 0] 3 (Nat.le_of_ble_eq_true (show Nat.ble (0 + 1) PP.globals.size = true by kernel_rfl)) (by kernel_rfl)
  exact ⟨0, cs, 3, _, h⟩

/-- The contract of a law's row. -/
theorem contract_of {n : Nat} {fn : Func} {s : ChangeSpec} (ts : List TypeId) (ho : OV n = none) (hp : fn.params.toList = ts) (hr : fn.resultTypes = #[4]) (hv : s.vars = [])
    (hs : ∀ (H : Type) (ds : List (DataW H)), ds.length = ts.length → (s.fn H ds).results = [.lit (.bool true)] ∧ (s.fn H ds).args = ds ∧ (s.fn H ds).vars = [])
    (hpl : ts.all (fun t => plainT PP 8 t && PP.readableRec t && Nat.blt t PP.types.size) = true)
    (hk : ∀ (us : List V) (m : Mem), AllRo m → Two (RdV PP m 8) ts us → CallP PP EE OV n us m fun v _ => v = .bool true)
    (H : Type) (enc : TypeId × Value → H) (W : World) (base : Nat) (args : Array Value) (ds gs : List (DataW H)) (before : List MemPlace)
    (hval : ∀ (j : Nat) t v, fn.params[j]? = some t → args[j]? = some v → Value.okWide PP W .any base t v)
    (hW : DataW.Whole enc PP fn.params.toList s.vars false W args.toList ds gs before) (hsh : W.ShapedOpen PP) :
    Calls PP n args W fun e W' => ∃ v, e = .returned v ∧ s.post enc PP fn false true false false W args v W' := by
  have hW' := hW
  obtain ⟨p, q, hA, hV, rfl, hfz, hnd⟩ := hW
  rw [hv] at hV
  obtain ⟨rfl, rfl⟩ := trodVars_none hV
  rw [hp] at hA
  rw [List.all_eq_true] at hpl
  have hlen := trodAll_len hA
  have hval' : ∀ (j : Nat) t v, ts[j]? = some t → args.toList[j]? = some v → Value.okWide PP W .any base t v := fun j t v h1 h2 => hval j t v (by rw [← hp] at h1; simpa using h1) (by simpa using h2)
  obtain ⟨ρ, m, us, a1, _, _, a4, a5, a6⟩ := args_rel (hcell hsh) (d := 8) (fun t ht => by
    have := hpl t ht
    simp only [Bool.and_eq_true] at this
    exact this.1.1) hA hval' (MR.nil W) AllRo.nil
  have hc := calls_of PP EE OV EE_ok mixed OV_ok ho (hk us m a4 a6) a1 a5
  refine hc.mono fun e W' he => ?_
  obtain ⟨x, rfl, ρ', v', m', hn, hvr, rfl⟩ := he
  cases hvr
  have hb := hn.below a4
  have hs' := hs H (ds ++ []) (by simpa using hlen)
  obtain ⟨s1, s2, s3⟩ := hs'
  have hlt : ∀ x ∈ p, x.block < W.heap.size := fun x hx => hW'.lt x (by simpa using hx)
  refine ⟨_, rfl, post_below (pa := p) (pv := []) hW' ?_ ?_ ?_ rfl hb ?_⟩
  · intro b sp hd
    rw [s1, hr]
    exact trodAll_cons_mk (shut_bool Tryz.underlying4 _) trodAll_mk0
  · intro sp hsp
    rw [s2, hp, List.append_nil]
    exact trodAll_stays hb (fun t ht => by
      have := hpl t ht
      simp only [Bool.and_eq_true] at this
      exact ⟨this.1.2, by simpa [Nat.blt_eq] using this.2⟩) hA hlt sp (fun x hx => hsp x (by simpa using hx))
  · intro sp _
    rw [s3, hv]
    rfl
  · exact ok_one hr rfl (okWide_bool_mk Tryz.underlying4 _)

/-- A world for the witness: the settled one, the tables holding what their initialisers lay. -/
def laidFirst : Obj → Obj
  | .cells _ t frozen => .cells (Go.Pinned.utf8FirstZ.map fun (n : Nat) => Value.int .u8 (n : Int)).toArray t frozen
  | o => o
def laidRanges : Obj → Obj
  | .cells _ t frozen => .cells (([128, 191, 160, 191, 128, 159, 144, 191, 128, 143, 0, 0, 0, 0, 0, 0, 0, 0, 0, 0, 0, 0, 0, 0, 0, 0, 0, 0, 0, 0, 0, 0] : List Int).map fun n => Value.int .u8 n).toArray t frozen
  | o => o
noncomputable def laidWorld (os : Os) : World :=
  { World.holding Tryz.prog os ⟨#[], #[], []⟩ with heap := ((World.holding Tryz.prog os ⟨#[], #[], []⟩).heap.modify 1 laidFirst).modify 2 laidRanges }
abbrev Laid : List (String × DataW Unit) := [("unicode/utf8.acceptRanges", Rows.laid_unicode_utf8_acceptRanges), ("unicode/utf8.first", Rows.laid_unicode_utf8_first)]
theorem laid_met (os : Os) (args : Array Value) : laidMet Tryz.prog Laid ((laidWorld os).forCall (fun _ _ => 0) ⟨#[], args, []⟩).memory :=
  laidMet_of_run' 8 (by kernel_rfl) (by kernel_rfl)

end Go.Proofs.YtdmahionfllhnaaGreatDoor.ends
