/- EditInserts: what double.Put gives at the texts that are met. -/
import Derived.Test.YtbndnhkhphkjgaaGreatDoorInss1
namespace Go.Proofs.YtbndnhkhphkjgaaGreatDoor.InssF
open Go.Vai
set_option linter.unusedVariables false
set_option maxRecDepth 1000000
theorem vs : (txts.all fun s => givesB clN 264 [.str s] (.bool true)) = true := by decide +kernel
theorem os : (runes.all fun r => givesB clN 266 [.int .i32 (Int.ofNat r)] (.str [UInt8.ofNat r])) = true := by decide +kernel
theorem ps : (txts.all fun s => ((List.range s.length).all fun pos => (Utf8.decode ⟨⟨s⟩⟩ pos).1 == (s.getD pos 0).toNat && runes.contains (s.getD pos 0).toNat) && (Put.from ⟨⟨s⟩⟩ (fun pos => [s.getD pos 0]) s.length 0 == s && Nat.ble s.length 100)) = true := by decide +kernel
theorem put_ok : ∀ s ∈ txts, ∀ w, Calls P 210 #[.string ⟨⟨s⟩⟩] w fun e w' => e = .returned (.tuple #[.string ⟨⟨34 :: (s ++ [34])⟩⟩, .bool true]) ∧ Go.RowKit.Below w.heap.size w w' := by
  intro s hs w
  letI : Lane := ⟨0, fun _ => 0, by decide, []⟩
  have hN : CallOk P 0 glN hkN := fun f args h r e => by cases e
  have hcl : CallOk P 0 glN clN := fun f args h r e => call_ok plainP hN 100000 80 f args h r (by rw [← callF_eq]; exact e)
  have G0 : ∀ w, GlobOk glN noEmb w := fun w => ⟨(fun _ _ z => by cases z), fun p hp => by cases hp⟩
  have hv := List.all_eq_true.1 vs s hs
  have hp := List.all_eq_true.1 ps s hs
  simp only [Bool.and_eq_true] at hp
  obtain ⟨h1, h2, h3⟩ := hp
  have h3 := Nat.le_of_ble_eq_true h3
  have h2 := eq_of_beq h2
  have key := Put.walk ⟨⟨s⟩⟩ (fun pos => [s.getD pos 0]) w (by show s.length ≤ _; omega) ?_ ?_ (fun pos => by simp)
  · refine key.mono ?_
    rintro _ w' ⟨rfl, hB⟩
    refine ⟨?_, hB⟩
    have : Put.from ⟨⟨s⟩⟩ (fun pos => [s.getD pos 0]) (⟨⟨s⟩⟩ : ByteArray).size 0 = s := h2
    rw [this]
    rfl
  · intro w
    refine (gives_ok (us := #[.string ⟨⟨s⟩⟩]) hcl hv (enters plainP Tryz.func264 (by kernel_rfl) _ w) (G0 w) (.cons (.str _) .nil)).mono ?_
    rintro _ w' ⟨u, φ, rfl, hu, hB⟩
    cases hu
    exact ⟨rfl, hB⟩
  · intro pos hpos w
    have hx := List.all_eq_true.1 h1 pos (List.mem_range.2 hpos)
    simp only [Bool.and_eq_true] at hx
    have e1 := eq_of_beq hx.1
    have e2 := List.all_eq_true.1 os _ (List.contains_iff_mem.1 hx.2)
    rw [e1]
    refine (gives_ok (us := #[.int .i32 (Int.ofNat (s.getD pos 0).toNat)]) hcl e2 (enters plainP Tryz.func266 (by kernel_rfl) _ w) (G0 w) (.cons (.int _ _) .nil)).mono ?_
    rintro _ w' ⟨u, φ, rfl, hu, hB⟩
    rw [UInt8.ofNat_toNat] at hu
    cases hu
    exact ⟨rfl, hB⟩
end Go.Proofs.YtbndnhkhphkjgaaGreatDoor.InssF
