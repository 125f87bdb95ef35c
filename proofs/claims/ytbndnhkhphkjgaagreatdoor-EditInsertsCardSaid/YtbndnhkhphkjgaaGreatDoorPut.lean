import Derived.Test.YtbndnhkhphkjgaaGreatDoorShB
import Derived.WalkKit
import Derived.BigCall
namespace Go.Proofs
open Go.RowKit
def Put.from (s : ByteArray) (g : Nat → List UInt8) : Nat → Nat → List UInt8
  | 0, _ => []
  | fuel + 1, pos => if pos < s.size then g pos ++ Put.from s g fuel (pos + (Utf8.decode s pos).2) else []
theorem Put.width_pos (s : ByteArray) (pos : Nat) (h : pos < s.size) : 1 ≤ (Utf8.decode s pos).2 := by
  by_cases ha : (s[pos]'h).toNat < 128
  · rw [decode_ascii s pos h ha]
    exact Nat.le_refl _
  · exact (decode_high s pos h (by omega)).2
theorem Put.from_end (s : ByteArray) (g : Nat → List UInt8) (fuel pos : Nat) (h : ¬ pos < s.size) : Put.from s g fuel pos = [] := by
  cases fuel with
  | zero => rfl
  | succ f => simp [Put.from, h]
theorem Put.at_below {T e : TypeId} {B b : Nat} {p : Value} {bs : List Value} {W W' : World} (h : Lib.BuilderAtF T e B b p bs W) (hb : Below W.heap.size W W') : Lib.BuilderAtF T e B b p bs W' := by
  have hlt := h.lt
  obtain ⟨hB, v, hv, hown, hne⟩ := h
  exact ⟨hB, v, (hb.block b hlt).trans hv, hown.kept (row := none) ⟨hb.os, hb.tape, hb.output, hb.size, fun k hk _ => hb.block k hk⟩ (Classical.em _), hne⟩
theorem Put.is_below {T e : TypeId} {B b : Nat} {bs : List Value} {W W' : World} (h : Lib.IsBuilderF T e B b bs W) (hb : Below W.heap.size W W') : Lib.IsBuilderF T e B b bs W' :=
  h.elim (fun x => .inl (Put.at_below x hb)) (fun x => .inr (Put.at_below x hb))
set_option maxHeartbeats 4000000 in
set_option maxRecDepth 1000000 in
theorem Put.walk (s : ByteArray) (g : Nat → List UInt8) (w : World) (hs : s.size ≤ 65536)
    (hV : ∀ w, Calls Tryz.prog 264 #[.string s] w fun e w' => e = .returned (.bool true) ∧ Below w.heap.size w w')
    (hO : ∀ pos, pos < s.size → ∀ w, Calls Tryz.prog 266 #[.int .i32 (Utf8.decode s pos).1] w fun e w' => e = .returned (.string ⟨⟨g pos⟩⟩) ∧ Below w.heap.size w w')
    (hg : ∀ pos, (g pos).length ≤ 10) :
    Calls Tryz.prog 210 #[.string s] w fun e w' => e = .returned (.tuple #[.string ⟨⟨[34] ++ Put.from s g s.size 0 ++ [34]⟩⟩, .bool true]) ∧ Below w.heap.size w w' := by
  go_enter Tryz.func210, Tryz.ntmps210
  go_wp2_with (go_at_call 264; refine (hV _).mono ?_)
  rintro _ w1 ⟨rfl, b1⟩
  go_wp2_with (go_at_call 265; refine (Tryz.Builder_WriteByte_k w1.heap.size w1.heap.size [] 34 _ (Lib.IsBuilderF.of (Lib.fresh_isBuilder 251 5 w1)) (by simp) (by simp)).mono ?_)
  rintro _ w2 ⟨rfl, h2, b2, k2⟩
  have bA : Below w.heap.size w (w1.alloc (.cells #[.pointer none, .slice none 0 0] 251)) := b1.trans ((Below.refl _ w1).alloc b1.size _)
  have b3 := bA.trans (b2.mono b1.size)
  have hsz2 : w1.heap.size < w2.heap.size := by have := b2.size; simp at this; omega
  go_wp2
  go_loopw [] (fun wr => ∃ (pos fuel : Nat) (acc : List UInt8), Lib.IsBuilderF 251 5 w1.heap.size w1.heap.size (Lib.byteCells acc) wr ∧ wr.heap[w2.heap.size]? = some (.stringIter s pos) ∧ Below w.heap.size w wr ∧ acc ++ Put.from s g fuel pos = [34] ++ Put.from s g s.size 0 ∧ s.size ≤ pos + fuel ∧ acc.length + 10 * fuel ≤ 1 + 10 * s.size) (fun wr => s.size - wr.iterPos (w2.heap.size))
  case atStart =>
    refine ⟨0, s.size, [34], Or.inr (h2.alloc _), ?_, b3.alloc b3.size _, rfl, by omega, by simp⟩
    have := World.iter_heap w2 s 0
    simpa using this
  case round =>
    obtain ⟨pos, fuel, acc, hI, hit, hbw, hacc, hfu, hal⟩ := hrel
    have hsz : w2.heap.size < wr.heap.size := (Array.getElem?_eq_some_iff.1 hit).1
    by_cases hp : pos < s.size
    · have hnx : ∀ ty, (Instr.next (.pointer (some ⟨w2.heap.size, 0, none⟩)) true ty).run Tryz.prog wr = _ := fun ty => Lib.run_next_any_at wr (w2.heap.size) s pos ty hit hp
      have hwd := Put.width_pos s pos hp
      have hd1 := decode_le s pos
      have hI2 := hI.iterAt hit (pos + (Utf8.decode s pos).2)
      have hit2 := Lib.iterAt_heap wr (w2.heap.size) s pos (pos + (Utf8.decode s pos).2) hit
      have hbw2 := Lib.below_iterAt hbw (k := w2.heap.size) (by have := b3.size; omega) s (pos + (Utf8.decode s pos).2)
      have hsz2 : w2.heap.size < (wr.iterAt (w2.heap.size) s (pos + (Utf8.decode s pos).2)).heap.size := by rw [Lib.iterAt_size]; omega
      obtain ⟨f, rfl⟩ : ∃ f, fuel = f + 1 := ⟨fuel - 1, by omega⟩
      have hgp := hg pos
      go_wp2_with (go_at_call 266; refine (hO pos hp _).mono ?_)
      rintro _ w3 ⟨rfl, b4⟩
      have hI3 := Put.is_below hI2 b4
      have hit3 := (b4.block w2.heap.size hsz2).trans hit2
      have hsz3 := b4.size
      have hbw3 := hbw2.trans (b4.mono hbw2.size)
      go_wp2_with (go_at_call 173; refine (Tryz.Builder_WriteString_k w1.heap.size w1.heap.size _ ⟨⟨g pos⟩⟩ _ hI3 (by rw [Lib.byteCells_length]; show _ + (g pos).length ≤ _; omega) (by omega)).mono ?_)
      rintro _ w4 ⟨rfl, h4, b5, k5⟩
      go_wp2
      go_roundw
      case rel =>
        refine ⟨pos + (Utf8.decode s pos).2, f, acc ++ g pos, ?_, k5.iter hit3 (by omega), hbw3.trans (b5.mono b1.size), ?_, by omega, by simp; omega⟩
        · rw [Lib.byteCells_append]; exact Or.inr h4
        · rw [← hacc]; simp [Put.from, hp]
      case measure =>
        simp only [World.iterPos, k5.iter hit3 (by omega), hit]
        omega
    · have hnx : ∀ ty, (Instr.next (.pointer (some ⟨w2.heap.size, 0, none⟩)) true ty).run Tryz.prog wr = _ := fun ty => Lib.run_next_end_at wr (w2.heap.size) s pos ty hit hp
      go_wp2_with (go_at_call 265; refine (Tryz.Builder_WriteByte_k w1.heap.size w1.heap.size _ 34 _ hI (by rw [Lib.byteCells_length]; omega) (by omega)).mono ?_)
      rintro _ w4 ⟨rfl, h4, b4, k4⟩
      have h4' : Lib.IsBuilderF 251 5 w1.heap.size w1.heap.size (Lib.byteCells (acc ++ [34])) w4 := by rw [Lib.byteCells_append]; exact Or.inr h4
      go_wp2_with (go_at_call 175; refine (Tryz.Builder_String_any_k w1.heap.size w1.heap.size (acc ++ [34]) _ h4' (by have := b4.size; omega)).mono ?_)
      rintro _ w5 ⟨rfl, _, b5, _⟩
      go_wp2
      go_ret2
      rw [Put.from_end s g fuel pos hp, List.append_nil] at hacc
      subst hacc
      exact ⟨by simp, (hbw.trans (b4.mono b1.size)).trans (b5.mono b1.size)⟩
end Go.Proofs
