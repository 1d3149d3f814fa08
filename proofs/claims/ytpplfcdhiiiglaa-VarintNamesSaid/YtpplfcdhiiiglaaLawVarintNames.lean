/- The law VarintNames holds: for every input it returns true; its arguments read as before. No condition. Own work. -/
import Derived.Test.YtpplfcdhiiiglaaRows
import Derived.Test.YtpplfcdhiiiglaaVl
import Derived.WalkKit
import Derived.ProofKit
import Derived.OpenShut
import Derived.ShutString
import Derived.ChangeOld
import Derived.Below
import Derived.SizedLaws
namespace Go.Proofs.Ytpplfcdhiiiglaa.varintNames
open Go.ChangeShapes Go.WideShapes Go.ChangeAt Go.RowKit Go.Ev Go.Ev.A
theorem own : ownKnob Try.prog.godebug = none := by kernel_rfl
theorem laidOut : laidOutB Try.prog = true := by kernel_rfl
theorem readable : ∀ t ∈ [], Try.prog.readableRec t = true ∧ t < Try.prog.types.size := by
  intro t ht
  have h : ([].all fun t => Try.prog.readableRec t && decide (t < Try.prog.types.size)) = true := by kernel_rfl
  have := List.all_eq_true.1 h t ht
  simpa using this
set_option maxRecDepth 100000 in
theorem lifted (os : Os) (started : os.Started) (H : Type) (enc : TypeId × Value → H) :
    ReturnsInHanded {} Try.checked os 7 .any (Rows.varintNamesSpec.pre6 enc Try.prog Try.f7 Rows.varintNamesRow.domain false) (Rows.varintNamesSpec.post enc Try.prog Try.f7 false true false false) := by
  refine returnsInHanded_of_change_sized (C := Try.checked) own started (by kernel_rfl) Try.func7
    (ChangeSpec.witness6 (enc := enc) (C := Try.checked) false ⟨#[], #[], []⟩ 8 (by kernel_rfl) (by kernel_rfl) (by kernel_rfl) (by kernel_rfl)) ?_
  intro W base args ds gs before hval0 hW hcnd hsz0 _
  have hW' := hW
  obtain ⟨p, q, hA0, hV, rfl, hfz, hnd⟩ := hW
  obtain ⟨rfl, rfl⟩ := trodVars_none hV
  have hA : DataW.TrodAll enc Try.prog W 0 (fun _ => true) true [] args.toList ds p := hA0
  have hsz : ∀ n ∈ DataW.weightsEach Try.prog [] ds, n ≤ reachBytes := by
    have h2 : (DataW.weightsEach Try.prog [] (ds ++ [])).all (· ≤ reachBytes) = true := hsz0
    rw [List.append_nil] at h2
    intro n hn
    simpa using List.all_eq_true.1 h2 n hn
  have hval : ∀ (j : Nat) t v, ([] : List TypeId)[j]? = some t → args.toList[j]? = some v → Value.okWide Try.prog W .any base t v := fun j t v ht hv => by simp at ht
  obtain ⟨xs, hv, hf⟩ := args_open (C := C0) (els := els) els_ok (shs := varintNames_shs) (by kernel_rfl) hval hA hsz
  obtain ⟨h', hl⟩ := varintNames_leads xs hf
  refine (Ct.law c_names hv hl).mono fun e W' ⟨he, bel⟩ => ?_
  subst he
  have back := trodAll_back laidOut bel readable hA
  obtain ⟨_, rfl, rfl⟩ := trodAll_none hA
  exact ⟨_, rfl, _, _, _, [], _, [], hW', trodAll_mk1 (shut_bool Try.underlying4 _), back, rfl, bel.frame _, fun h => by cases h⟩
theorem over : Rows.varintNamesRow.holds Try.pinned (OpenSpec.ofChange Rows.varintNamesSpec) :=
  OpenClaim.holds_of_wide 7 Try.f7 rfl rfl rfl rfl rfl rfl rfl ⟨rfl, rfl, rfl, rfl, rfl⟩ rfl rfl rfl rfl rfl (by kernel_rfl) Try.func7 (by kernel_rfl)
    (of_decide_eq_true (by kernel_rfl)) (by unfold Func.isWrapper; first | (rw [if_pos (by decide +kernel)]; kernel_rfl) | (rw [if_neg (by decide +kernel)]; exact ⟨rfl, rfl⟩))
    (fun os started H enc _ => lifted os started H enc)
end Go.Proofs.Ytpplfcdhiiiglaa.varintNames
namespace Go.Proofs.Ytpplfcdhiiiglaa
/-- The row. -/
theorem varintNames_holds : Rows.VarintNamesSaid := varintNames.over
#print axioms varintNames_holds
end Go.Proofs.Ytpplfcdhiiiglaa

