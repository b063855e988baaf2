import Derived.Test.YtiicdlnphnhblaaGreatDoorMn
import Derived.Test.YtiicdlnphnhblaaGreatDoorCards
import Derived.Test.YtiicdlnphnhblaaGreatDoorTie
import Derived.ProofKit
import Derived.OpenShut
import Derived.Lay
import Derived.SevenTiedAt
namespace Go.Proofs.YtiicdlnphnhblaaGreatDoor
open Go.ChangeShapes Go.WideShapes Go.ChangeAt Go.RowKit Go.Ev

theorem own : ownKnob Tryz.prog.godebug = none := by kernel_rfl
theorem laidOut : laidOutB Tryz.prog = true := by kernel_rfl

set_option maxRecDepth 100000 in
theorem none_any {W : World} {base : Nat} {v : Value} (h : Value.okWide Tryz.prog W .any base 44 v) : Calls Tryz.prog 4 #[v] W fun e w' => e = .returned (.bool true) ∧ Below W.heap.size W w' := by
  have hs := slice_form (P := Tryz.prog) Tryz.underlying44 h
  rcases hs with rfl | ⟨g, o, len, cap, rfl, hg⟩
  · exact run_true (P := Tryz.prog) (hook := noHook) (n := 100001) (Ls := []) noCount noHook_sound noHook_nx mixed Tryz.func4 body4_eq (fun _ h => by cases h) (.cons _ _ _ _ .nils .nil) none_nil
  · refine run_true (P := Tryz.prog) (hook := noHook) (n := 100001) (args := [raw len cap]) (Ls := [⟨g, o, 0⟩]) noCount noHook_sound noHook_nx mixed Tryz.func4 body4_eq (fun l h => ?_) (.cons _ _ _ _ ?_ .nil) (none_slice len cap)
    · simp only [List.mem_singleton] at h; subst h; exact hg
    · exact Rv.slice (φ := phiOf [⟨g, o, 0⟩]) 0 0 len cap false ⟨g, o, 0⟩ rfl

set_option maxRecDepth 100000 in
theorem lifted (os : Os) (started : os.Started) (H : Type) (enc : TypeId × Value → H) :
    ReturnsInHanded {} Tryz.checked os 4 .any (fun w args => (Rows.modelNoneSpec.pre enc Tryz.prog Tryz.f4 [] false w args ∧ laidMetH Tryz.prog Rows.modelNoneRow.laid w) ∧ sizedMet enc Tryz.prog Tryz.f4 (OpenSpec.ofChange Rows.modelNoneSpec) false w args)
      (Rows.modelNoneSpec.post enc Tryz.prog Tryz.f4 false true false false) := by
  refine returnsInHanded_of_change_and (C := Tryz.checked) (X := fun w _ => laidMetH Tryz.prog Rows.modelNoneRow.laid w) (fun _ _ _ hh h => h.of_heap hh) own started (by kernel_rfl) Tryz.func4
    (ChangeSpec.witness_shaped (enc := enc) (C := Tryz.checked) (os := os) (X := fun w _ => laidMetH Tryz.prog Rows.modelNoneRow.laid w) false (World.laidAll Tryz.prog os Rows.modelNoneRow.laid) #[.slice none 0 0] 8 (World.laidAll_os _ _ _)
      (World.shaped_of_ZipB (by kernel_rfl) (by kernel_rfl)) (by kernel_rfl) (by kernel_rfl) (by kernel_rfl)
      (by rw [MakeChecks.laidMetH_plain _ _ _ (by kernel_rfl)]; exact laidMet_laidAll _ (by kernel_rfl) (by kernel_rfl))) ?_
  intro W base args ds gs before hval0 hW _ _ _ _
  have hval : ∀ (j : Nat) t v, Tryz.f4.params[j]? = some t → args[j]? = some v → Value.okWide Tryz.prog W .any base t v := hval0
  have hW' := hW
  obtain ⟨p, q, hA0, hV, rfl, _, _⟩ := hW
  have hA : DataW.TrodAll enc Tryz.prog W 0 (fun _ => true) true Tryz.f4.params.toList args.toList ds p := hA0
  rw [Tryz.params4] at hA hval
  obtain ⟨v0, d0, rfl, rfl, h0⟩ := trodAll_one hA
  obtain ⟨rfl, rfl⟩ := trodVars_none hV
  simp only [List.append_nil] at hW'
  have hlt : ∀ x ∈ p, x.block < W.heap.size := fun x hx => by simpa using hW'.lt x (by simpa using hx)
  refine (none_any (hval 0 44 v0 rfl rfl)).mono fun e W' ⟨he, hb⟩ => ?_
  subst he
  exact ⟨_, rfl, _, _, _, [], _, [], hW', trodAll_mk1 (shut_bool Tryz.underlying4 _), trodAll_mk1 (Below.trod laidOut (by kernel_rfl) (of_decide_eq_true (by kernel_rfl)) h0 hb hlt), rfl, hb.frame _, fun h => by cases h⟩

end Go.Proofs.YtiicdlnphnhblaaGreatDoor
