import Derived.Test.YtcbhnjlbolafpaaGreatDoorMn
import Derived.Test.YtcbhnjlbolafpaaGreatDoorCards
import Derived.Test.YtcbhnjlbolafpaaGreatDoorTie
import Derived.ProofKit
import Derived.OpenShut
import Derived.Lay
import Derived.SevenTiedAt
namespace Go.Proofs.YtcbhnjlbolafpaaGreatDoor
open Go.ChangeShapes Go.WideShapes Go.ChangeAt Go.RowKit Go.Ev

theorem nown : ownKnob Tryz.prog.godebug = none := by kernel_rfl
theorem nlaidOut : laidOutB Tryz.prog = true := by kernel_rfl

set_option maxRecDepth 100000 in
theorem none_any {W : World} {base : Nat} {u v : Value} (hu : Value.okWide Tryz.prog W .any base 22 u) (hv : Value.okWide Tryz.prog W .any base 23 v) (p : Int) :
    Calls Tryz.prog 3 #[u, v, .int .i64 p] W fun e w' => e = .returned (.bool true) ∧ Below W.heap.size W w' := by
  have h1 := slice_form (P := Tryz.prog) Tryz.underlying22 hu
  have h2 := slice_form (P := Tryz.prog) Tryz.underlying23 hv
  rcases h1 with rfl | ⟨g, o, l, e, rfl, hg⟩ <;> rcases h2 with rfl | ⟨g', o', m, f, rfl, hg'⟩
  · exact run_true (P := Tryz.prog) (hook := hookB) (n := 100001) (args := [.nils, .nils, .int .i64 p]) (Ls := []) noCount hookB_sound hookB_nx mixed Tryz.func3 body3_eq (fun _ h => by cases h) (.cons _ _ _ _ .nils (.cons _ _ _ _ .nils (.cons _ _ _ _ (.int _ _) .nil))) (none_nn p)
  · refine run_true (P := Tryz.prog) (hook := hookB) (n := 100001) (args := [.nils, raw 0 m f, .int .i64 p]) (Ls := [⟨g', o', 0⟩]) noCount hookB_sound hookB_nx mixed Tryz.func3 body3_eq (fun x h => ?_)
      (.cons _ _ _ _ .nils (.cons _ _ _ _ ?_ (.cons _ _ _ _ (.int _ _) .nil))) (none_ns m f p)
    · simp only [List.mem_singleton] at h; subst h; exact hg'
    · exact Rv.slice (φ := phiOf [⟨g', o', 0⟩]) 0 0 m f false ⟨g', o', 0⟩ rfl
  · refine run_true (P := Tryz.prog) (hook := hookB) (n := 100001) (args := [raw 0 l e, .nils, .int .i64 p]) (Ls := [⟨g, o, 0⟩]) noCount hookB_sound hookB_nx mixed Tryz.func3 body3_eq (fun x h => ?_)
      (.cons _ _ _ _ ?_ (.cons _ _ _ _ .nils (.cons _ _ _ _ (.int _ _) .nil))) (none_sn l e p)
    · simp only [List.mem_singleton] at h; subst h; exact hg
    · exact Rv.slice (φ := phiOf [⟨g, o, 0⟩]) 0 0 l e false ⟨g, o, 0⟩ rfl
  · refine run_true (P := Tryz.prog) (hook := hookB) (n := 100001) (args := [raw 0 l e, raw 1 m f, .int .i64 p]) (Ls := [⟨g, o, 0⟩, ⟨g', o', 0⟩]) noCount hookB_sound hookB_nx mixed Tryz.func3 body3_eq (fun x h => ?_)
      (.cons _ _ _ _ ?_ (.cons _ _ _ _ ?_ (.cons _ _ _ _ (.int _ _) .nil))) (none_ss l e m f p)
    · simp only [List.mem_cons, List.not_mem_nil, or_false] at h
      rcases h with rfl | rfl
      · exact hg
      · exact hg'
    · exact Rv.slice (φ := phiOf [⟨g, o, 0⟩, ⟨g', o', 0⟩]) 0 0 l e false ⟨g, o, 0⟩ rfl
    · exact Rv.slice (φ := phiOf [⟨g, o, 0⟩, ⟨g', o', 0⟩]) 1 0 m f false ⟨g', o', 0⟩ rfl

set_option maxRecDepth 100000 in
theorem nlifted (os : Os) (started : os.Started) (H : Type) (enc : TypeId × Value → H) :
    ReturnsInHanded {} Tryz.checked os 3 .any (fun w args => (Rows.portNoneSpec.pre enc Tryz.prog Tryz.f3 [] false w args ∧ laidMetH Tryz.prog Rows.portNoneRow.laid w) ∧ sizedMet enc Tryz.prog Tryz.f3 (OpenSpec.ofChange Rows.portNoneSpec) false w args)
      (Rows.portNoneSpec.post enc Tryz.prog Tryz.f3 false true false false) := by
  refine returnsInHanded_of_change_and (C := Tryz.checked) (X := fun w _ => laidMetH Tryz.prog Rows.portNoneRow.laid w) (fun _ _ _ hh h => h.of_heap hh) nown started (by kernel_rfl) Tryz.func3
    (ChangeSpec.witness_shaped (enc := enc) (C := Tryz.checked) (os := os) (X := fun w _ => laidMetH Tryz.prog Rows.portNoneRow.laid w) false (World.laidAll Tryz.prog os Rows.portNoneRow.laid) #[.slice none 0 0, .slice none 0 0, .int .i64 0] 8 (World.laidAll_os _ _ _)
      (World.shaped_of_ZipB (by kernel_rfl) (by kernel_rfl)) (by kernel_rfl) (by kernel_rfl) (by kernel_rfl)
      (by rw [MakeChecks.laidMetH_plain _ _ _ (by kernel_rfl)]; exact laidMet_laidAll _ (by kernel_rfl) (by kernel_rfl))) ?_
  intro W base args ds gs before hval0 hW _ _ _ _
  have hval : ∀ (j : Nat) t v, Tryz.f3.params[j]? = some t → args[j]? = some v → Value.okWide Tryz.prog W .any base t v := hval0
  have hW' := hW
  obtain ⟨p, q, hA0, hV, rfl, _, _⟩ := hW
  have hA : DataW.TrodAll enc Tryz.prog W 0 (fun _ => true) true Tryz.f3.params.toList args.toList ds p := hA0
  rw [Tryz.params3] at hA hval
  obtain ⟨v0, v1, v2, d0, d1, d2, p0, p1, p2, rfl, rfl, rfl, h0, h1, h2⟩ := trodAll_three hA
  obtain ⟨rfl, rfl⟩ := trodVars_none hV
  simp only [List.append_nil] at hW'
  have hlt : ∀ x ∈ p0 ++ p1 ++ p2, x.block < W.heap.size := fun x hx => by simpa using hW'.lt x (by simpa using hx)
  obtain ⟨p, rfl⟩ := okWide_int Tryz.underlying3 (hval 2 3 v2 rfl rfl)
  refine (none_any (hval 0 22 v0 rfl rfl) (hval 1 23 v1 rfl rfl) p).mono fun e W' ⟨he, hb⟩ => ?_
  subst he
  refine ⟨_, rfl, _, _, _, [], _, [], hW', trodAll_mk1 (shut_bool Tryz.underlying4 _),
    trodAll_mk3 (Below.trod nlaidOut (by kernel_rfl) (of_decide_eq_true (by kernel_rfl)) h0 hb fun x hx => hlt x (by simp [hx]))
      (Below.trod nlaidOut (by kernel_rfl) (of_decide_eq_true (by kernel_rfl)) h1 hb fun x hx => hlt x (by simp [hx]))
      (Below.trod nlaidOut (by kernel_rfl) (of_decide_eq_true (by kernel_rfl)) h2 hb fun x hx => hlt x (by simp [hx])), rfl, hb.frame _, fun h => by cases h⟩
end Go.Proofs.YtcbhnjlbolafpaaGreatDoor
