/- The walk of the law SchemaNumbers, by hand: one way, on which each of its tests says yes. -/
import Derived.Test.YtoahbekcegcghaaSchemaNumbersBase
import Derived.Test.YtoahbekcegcghaaSchemaPlainNum
namespace Go.Proofs.Ytoahbekcegcghaa.NumWalk
open Go.RowKit Go.Proofs.Ytoahbekcegcghaa.XSchemaNumbers Go.Proofs.YtoahbekcegcghaaW.PrintWords Go.Proofs.YtoahbekcegcghaaW.PrintLast Go.Proofs.YtoahbekcegcghaaW.PrintMore Go.Proofs.Ytoahbekcegcghaa.BaseSchemaNumbers Go.Proofs.Ytoahbekcegcghaa.SchemaPlain
set_option linter.unusedSimpArgs false
set_option linter.unusedVariables false

theorem resolve_is (t : ByteArray) (l : List UInt8) (w : World) (hs : t.size ≤ 9223372036854775807) (hl : resolveS (B t) = l) :
    Calls Try.prog 12 #[.string t] w fun e w' => e = .returned (.string ⟨l.toArray⟩) ∧ Below w.heap.size w w' := by
  obtain ⟨r, h1, h2⟩ := Resolve_spec t hs 1000 (by omega)
  have e : r = ⟨l.toArray⟩ := by
    rw [← hl, ← h2]; unfold B; simp
  rw [← e]
  exact schema_Resolve.calls 1000 t r w h1

theorem B_app (a b : ByteArray) : B (a ++ b) = B a ++ B b := by unfold B; simp
theorem sz_app (a b : ByteArray) : (a ++ b).size = a.size + b.size := ByteArray.size_append
theorem sz0 : (⟨#[]⟩ : ByteArray).size = 0 := rfl
theorem sz1 (a : UInt8) : (⟨#[a]⟩ : ByteArray).size = 1 := rfl
theorem sz2 (a b : UInt8) : (⟨#[a, b]⟩ : ByteArray).size = 2 := rfl
theorem F1 (s x y z : ByteArray) (hs : B s = [] ∨ B s = [45] ∨ B s = [43]) (hX : allB dig (B x) = true) (hY : allB dig (B y) = true) (hZ : allB dig (B z) = true) : resolveS (B (s ++ x)) = [33, 33, 105, 110, 116] := by
  have e : B (s ++ x) = B s ++ B x := by simp only [B_app, List.append_assoc] <;> rfl
  rw [e]; exact G1 hs hX hY hZ
theorem F2 (s x y z : ByteArray) (hs : B s = [] ∨ B s = [45] ∨ B s = [43]) (hX : allB dig (B x) = true) (hY : allB dig (B y) = true) (hZ : allB dig (B z) = true) : resolveS (B (s ++ x ++ ⟨#[46]⟩ ++ y)) = [33, 33, 102, 108, 111, 97, 116] := by
  have e : B (s ++ x ++ ⟨#[46]⟩ ++ y) = B s ++ (B x ++ 46 :: B y) := by simp only [B_app, List.append_assoc] <;> rfl
  rw [e]; exact G2 hs hX hY hZ
theorem F3 (s x y z : ByteArray) (hs : B s = [] ∨ B s = [45] ∨ B s = [43]) (hX : allB dig (B x) = true) (hY : allB dig (B y) = true) (hZ : allB dig (B z) = true) : resolveS (B (s ++ x ++ ⟨#[46]⟩)) = [33, 33, 102, 108, 111, 97, 116] := by
  have e : B (s ++ x ++ ⟨#[46]⟩) = B s ++ (B x ++ [46]) := by simp only [B_app, List.append_assoc] <;> rfl
  rw [e]; exact G3 hs hX hY hZ
theorem F4 (s x y z : ByteArray) (hs : B s = [] ∨ B s = [45] ∨ B s = [43]) (hX : allB dig (B x) = true) (hY : allB dig (B y) = true) (hZ : allB dig (B z) = true) : resolveS (B (s ++ ⟨#[46]⟩ ++ y)) = [33, 33, 102, 108, 111, 97, 116] := by
  have e : B (s ++ ⟨#[46]⟩ ++ y) = B s ++ (46 :: B y) := by simp only [B_app, List.append_assoc] <;> rfl
  rw [e]; exact G4 hs hX hY hZ
theorem F5 (s x y z : ByteArray) (hs : B s = [] ∨ B s = [45] ∨ B s = [43]) (hX : allB dig (B x) = true) (hY : allB dig (B y) = true) (hZ : allB dig (B z) = true) : resolveS (B (s ++ x ++ ⟨#[101]⟩ ++ z)) = [33, 33, 102, 108, 111, 97, 116] := by
  have e : B (s ++ x ++ ⟨#[101]⟩ ++ z) = B s ++ (B x ++ 101 :: B z) := by simp only [B_app, List.append_assoc] <;> rfl
  rw [e]; exact G5 hs hX hY hZ
theorem F6 (s x y z : ByteArray) (hs : B s = [] ∨ B s = [45] ∨ B s = [43]) (hX : allB dig (B x) = true) (hY : allB dig (B y) = true) (hZ : allB dig (B z) = true) : resolveS (B (s ++ x ++ ⟨#[46]⟩ ++ y ++ ⟨#[69, 45]⟩ ++ z)) = [33, 33, 102, 108, 111, 97, 116] := by
  have e : B (s ++ x ++ ⟨#[46]⟩ ++ y ++ ⟨#[69, 45]⟩ ++ z) = B s ++ (B x ++ 46 :: (B y ++ 69 :: 45 :: B z)) := by simp only [B_app, List.append_assoc] <;> rfl
  rw [e]; exact G6 hs hX hY hZ
theorem F7 (s x y z : ByteArray) (hs : B s = [] ∨ B s = [45] ∨ B s = [43]) (hX : allB dig (B x) = true) (hY : allB dig (B y) = true) (hZ : allB dig (B z) = true) : resolveS (B (s ++ x ++ ⟨#[101, 43]⟩ ++ z)) = [33, 33, 102, 108, 111, 97, 116] := by
  have e : B (s ++ x ++ ⟨#[101, 43]⟩ ++ z) = B s ++ (B x ++ 101 :: 43 :: B z) := by simp only [B_app, List.append_assoc] <;> rfl
  rw [e]; exact G7 hs hX hY hZ
theorem F8 (s x y z : ByteArray) (hs : B s = [] ∨ B s = [45] ∨ B s = [43]) (hX : allB dig (B x) = true) (hY : allB dig (B y) = true) (hZ : allB dig (B z) = true) : resolveS (B (s ++ x ++ ⟨#[101]⟩ ++ z ++ ⟨#[46]⟩ ++ y)) = [33, 33, 115, 116, 114] := by
  have e : B (s ++ x ++ ⟨#[101]⟩ ++ z ++ ⟨#[46]⟩ ++ y) = B s ++ (B x ++ 101 :: (B z ++ 46 :: B y)) := by simp only [B_app, List.append_assoc] <;> rfl
  rw [e]; exact G8 hs hX hY hZ
theorem F9 (s x y z : ByteArray) (hs : B s = [] ∨ B s = [45] ∨ B s = [43]) (hX : allB dig (B x) = true) (hY : allB dig (B y) = true) (hZ : allB dig (B z) = true) : resolveS (B (s ++ x ++ ⟨#[32]⟩)) = [33, 33, 115, 116, 114] := by
  have e : B (s ++ x ++ ⟨#[32]⟩) = B s ++ (B x ++ [32]) := by simp only [B_app, List.append_assoc] <;> rfl
  rw [e]; exact G9 hs hX hY hZ
theorem F10 (s x y z : ByteArray) (hs : B s = [] ∨ B s = [45] ∨ B s = [43]) (hX : allB dig (B x) = true) (hY : allB dig (B y) = true) (hZ : allB dig (B z) = true) : resolveS (B (x ++ s ++ ⟨#[120]⟩)) = [33, 33, 115, 116, 114] := by
  have e : B (x ++ s ++ ⟨#[120]⟩) = B x ++ (B s ++ [120]) := by simp only [B_app, List.append_assoc] <;> rfl
  rw [e]; exact G10 hs hX hY hZ
theorem F11 (s x y z : ByteArray) (hs : B s = [] ∨ B s = [45] ∨ B s = [43]) (hX : allB dig (B x) = true) (hY : allB dig (B y) = true) (hZ : allB dig (B z) = true) : resolveS (B (⟨#[48, 120]⟩ ++ x)) = [33, 33, 105, 110, 116] := by
  have e : B (⟨#[48, 120]⟩ ++ x) = 48 :: 120 :: B x := by simp only [B_app, List.append_assoc] <;> rfl
  rw [e]; exact G11 hs hX hY hZ
theorem F12 (s x y z : ByteArray) (hs : B s = [] ∨ B s = [45] ∨ B s = [43]) (hX : allB dig (B x) = true) (hY : allB dig (B y) = true) (hZ : allB dig (B z) = true) : resolveS (B (⟨#[48, 88]⟩ ++ x)) = [33, 33, 115, 116, 114] := by
  have e : B (⟨#[48, 88]⟩ ++ x) = 48 :: 88 :: B x := by simp only [B_app, List.append_assoc] <;> rfl
  rw [e]; exact G12 _
theorem F13 (s x y z : ByteArray) (hs : B s = [] ∨ B s = [45] ∨ B s = [43]) (hX : allB dig (B x) = true) (hY : allB dig (B y) = true) (hZ : allB dig (B z) = true) : resolveS (B (s ++ x ++ ⟨#[44]⟩ ++ y)) = [33, 33, 115, 116, 114] := by
  have e : B (s ++ x ++ ⟨#[44]⟩ ++ y) = B s ++ (B x ++ 44 :: B y) := by simp only [B_app, List.append_assoc] <;> rfl
  rw [e]; exact G13 hs hX hY hZ

def D : ByteArray := ⟨#[48, 49, 50, 51, 52, 53, 54, 55, 56, 57]⟩
theorem D_piece (m : Nat) (hm : m < 10) : B ((D.extract m D.size).extract 0 1) = (decs.drop m).take 1 := by
  unfold B
  rw [Lib.extract_data, Lib.extract_to_end, List.drop_zero, Nat.sub_zero]; rfl
theorem D_size (m : Nat) : (D.extract m D.size).size = 10 - m := by
  rw [ByteArray.size_extract]; show min 10 10 - m = _; omega
theorem decs_piece : ∀ m, m < 10 → ((decs.drop m).take 1).all dig = true ∧ ((decs.drop m).take 1).length = 1 := by decide +kernel
theorem digits_loop : ∀ (d k : Nat) (n : Nat) (acc : ByteArray), n < 10 ^ (d + 1) → d ≤ 10 → d < k → (B acc).all dig = true → acc.size + d ≤ 100 →
    ∃ x, scholiumlaw08_digits.l0 k (n : Int) acc = some x ∧ Digs (B x) ∧ x.size ≤ acc.size + d + 1 := by
  have last : ∀ (k n : Nat) (acc : ByteArray), n < 10 → (B acc).all dig = true → acc.size ≤ 100 → ∃ x, scholiumlaw08_digits.l0 (k + 1) (n : Int) acc = some x ∧ Digs (B x) ∧ x.size ≤ acc.size + 1 := by
    intro k n acc hn ha hz
    obtain ⟨q1, q2⟩ := decs_piece n hn
    have e := D_piece n hn
    have hs : ((D.extract n D.size).extract 0 1).size = 1 := by rw [B_size, e, q2]
    refine ⟨(D.extract n D.size).extract 0 1 ++ acc, ?_, ?_, by rw [sz_app, hs]; omega⟩
    · simp only [scholiumlaw08_digits.l0]
      rw [if_neg (by omega), if_pos (by omega), if_pos (by omega), if_pos (by omega), Int.toNat_natCast]
      have h1 : (1 : Int) ≤ ((D.extract n D.size).size : Int) := by rw [D_size]; omega
      have h2 : ((D.extract n D.size).extract 0 1).size + acc.size ≤ 9223372036854775807 := by rw [hs]; omega
      exact (if_pos h1).trans (if_pos h2)
    · unfold Digs allB
      rw [B_app, e, List.all_append, q1, ha]
      cases h : (decs.drop n).take 1 with
      | nil => rw [h] at q2; simp at q2
      | cons c r => rfl
  intro d
  induction d with
  | zero =>
    intro k n acc hn _ hk ha hz
    obtain ⟨k, rfl⟩ : ∃ m, k = m + 1 := ⟨k - 1, by omega⟩
    exact last k n acc (by omega) ha (by omega)
  | succ d ih =>
    intro k n acc hn hd hk ha hz
    obtain ⟨k, rfl⟩ : ∃ m, k = m + 1 := ⟨k - 1, by omega⟩
    by_cases h9 : n < 10
    · obtain ⟨x, h1, h2, h3⟩ := last k n acc h9 ha (by omega)
      exact ⟨x, h1, h2, by omega⟩
    · have hm : n % 10 < 10 := Nat.mod_lt _ (by omega)
      obtain ⟨q1, q2⟩ := decs_piece (n % 10) hm
      have e := D_piece (n % 10) hm
      have hs : ((D.extract (n % 10) D.size).extract 0 1).size = 1 := by rw [B_size, e, q2]
      have hlt : n / 10 < 10 ^ (d + 1) := by rw [Nat.pow_succ] at hn; omega
      obtain ⟨x, h1, h2, h3⟩ := ih k (n / 10) ((D.extract (n % 10) D.size).extract 0 1 ++ acc) hlt (by omega) (by omega) (by rw [B_app, e, List.all_append, q1, ha]; rfl) (by rw [sz_app, hs]; omega)
      refine ⟨x, ?_, h2, by rw [sz_app, hs] at h3; omega⟩
      have p11 : n < 100000000000 := by
        have : 10 ^ (d + 1 + 1) ≤ 10 ^ 11 := Nat.pow_le_pow_right (by omega) (by omega)
        omega
      have ed : wrap64 (Int.tdiv (n : Int) 10) = ((n / 10 : Nat) : Int) := by
        have e0 : Int.tdiv (n : Int) 10 = ((n / 10 : Nat) : Int) := rfl
        rw [e0]
        have hq : n / 10 ≤ 10000000000 := by omega
        generalize n / 10 = q at hq
        unfold wrap64; omega
      have n9 : (n : Int) > 9 := by omega
      have et : Int.tmod (n : Int) 10 = ((n % 10 : Nat) : Int) := rfl
      simp only [scholiumlaw08_digits.l0]
      rw [if_pos n9, et, ed]
      clear ed et
      rw [if_pos (by omega), if_pos (by omega), if_pos (by omega), Int.toNat_natCast]
      have g1 : (1 : Int) ≤ (((⟨#[48, 49, 50, 51, 52, 53, 54, 55, 56, 57]⟩ : ByteArray).extract (n % 10) (⟨#[48, 49, 50, 51, 52, 53, 54, 55, 56, 57]⟩ : ByteArray).size).size : Int) := by have := D_size (n % 10); unfold D at this; omega
      have g2 : (((⟨#[48, 49, 50, 51, 52, 53, 54, 55, 56, 57]⟩ : ByteArray).extract (n % 10) (⟨#[48, 49, 50, 51, 52, 53, 54, 55, 56, 57]⟩ : ByteArray).size).extract 0 1).size + acc.size ≤ 9223372036854775807 := by have := hs; unfold D at this; omega
      rw [if_pos g1, if_pos g2]; exact h1
theorem within_spec (v n : Int) (h0 : 0 < n) (h1 : n ≤ 1000000000) : ∃ r, scholiumkeep_Within.f v n = some r ∧ 0 ≤ r ∧ r < n := by
  have a := Int.tmod_lt_of_pos v h0
  have b := Int.lt_tmod_of_pos v h0
  unfold scholiumkeep_Within.f
  rw [if_neg (by omega), if_neg (by omega)]
  by_cases h : Int.tmod v n < 0
  · rw [if_pos h]
    have e : wrap64 (Int.tmod v n + n) = Int.tmod v n + n := by
      generalize Int.tmod v n = m at *
      unfold wrap64; omega
    exact ⟨_, by rw [e], by omega, by omega⟩
  · rw [if_neg h]; exact ⟨_, rfl, by omega, by omega⟩
theorem digits_spec (a : Int) : ∃ x, scholiumlaw08_digits.f 1000 a = some x ∧ Digs (B x) ∧ x.size ≤ 6 := by
  obtain ⟨r, h, h0, h1⟩ := within_spec a 1000000 (by omega) (by omega)
  obtain ⟨n, rfl⟩ := Int.eq_ofNat_of_zero_le h0
  obtain ⟨x, h2, h3, h4⟩ := digits_loop 5 1000 n ⟨#[]⟩ (by omega) (by omega) (by omega) rfl (by decide)
  exact ⟨x, by unfold scholiumlaw08_digits.f; rw [h, Option.bind_some, h2], h3, h4⟩
set_option maxHeartbeats 8000000 in
set_option maxRecDepth 100000 in
theorem walk0 (a b c d : Int) (x y z : ByteArray) (hx : scholiumlaw08_digits.f 1000 a = some x) (hy : scholiumlaw08_digits.f 1000 b = some y) (hz : scholiumlaw08_digits.f 1000 c = some z)
    (hr : scholiumkeep_Within.f d 3 = some 0) (hX : allB dig (B x) = true) (hY : allB dig (B y) = true) (hZ : allB dig (B z) = true) (zx : x.size ≤ 6) (zy : y.size ≤ 6) (zz : z.size ≤ 6) (w : World) :
    Calls Try.prog 3 #[.int .i64 a, .int .i64 b, .int .i64 c, .int .i64 d] w fun e w' => e = .returned (.bool true) ∧ Below w.heap.size w w' := by
  have hs : B (⟨#[]⟩ : ByteArray) = [] ∨ B (⟨#[]⟩ : ByteArray) = [45] ∨ B (⟨#[]⟩ : ByteArray) = [43] := by decide
  go_enter Try.func3, Try.ntmps3
  go_wp2_with fail
  refine (scholiumlaw08_digits.calls 1000 a x _ hx).mono ?_
  rintro e w1 ⟨rfl, ⟨n1, rfl⟩⟩
  go_wp2_with fail
  refine (scholiumlaw08_digits.calls 1000 b y _ hy).mono ?_
  rintro e w1 ⟨rfl, ⟨n2, rfl⟩⟩
  go_wp2_with fail
  refine (scholiumlaw08_digits.calls 1000 c z _ hz).mono ?_
  rintro e w1 ⟨rfl, ⟨n3, rfl⟩⟩
  go_wp2_with fail
  refine (scholiumkeep_Within.calls d 3 0 _ hr).mono ?_
  rintro e w1 ⟨rfl, ⟨n4, rfl⟩⟩
  have HB : Below w.heap.size w (((w.drewN (n1 + n2 + n3)).alloc (Obj.cells #[Value.string ⟨#[]⟩, Value.string ⟨#[45]⟩, Value.string ⟨#[43]⟩] 9)).drewN n4) := by
    repeat (first | exact Below.refl _ _ | apply below_alloc | apply pw_below_drewN)
  have hcell : (((w.drewN (n1 + n2 + n3)).alloc (Obj.cells #[Value.string ⟨#[]⟩, Value.string ⟨#[45]⟩, Value.string ⟨#[43]⟩] 9)).drewN n4).cell? ⟨w.heap.size, 0, none⟩ = some (.string ⟨#[]⟩) := by
    simp [World.cell?, World.alloc, World.drewN]
  go_wp2_with fail
  refine (resolve_is _ [33, 33, 105, 110, 116] _ (by simp only [sz_app, sz0, sz1, sz2]; omega) (F1 _ _ _ _ hs hX hY hZ)).mono ?_
  rintro e v1 ⟨rfl, hb⟩
  replace HB := below_step HB hb
  clear hb  hcell
  go_wp2_with fail
  refine (resolve_is _ [33, 33, 102, 108, 111, 97, 116] _ (by simp only [sz_app, sz0, sz1, sz2]; omega) (F2 _ _ _ _ hs hX hY hZ)).mono ?_
  rintro e v2 ⟨rfl, hb⟩
  replace HB := below_step HB hb
  clear hb
  go_wp2_with fail
  refine (resolve_is _ [33, 33, 102, 108, 111, 97, 116] _ (by simp only [sz_app, sz0, sz1, sz2]; omega) (F3 _ _ _ _ hs hX hY hZ)).mono ?_
  rintro e v3 ⟨rfl, hb⟩
  replace HB := below_step HB hb
  clear hb
  go_wp2_with fail
  refine (resolve_is _ [33, 33, 102, 108, 111, 97, 116] _ (by simp only [sz_app, sz0, sz1, sz2]; omega) (F4 _ _ _ _ hs hX hY hZ)).mono ?_
  rintro e v4 ⟨rfl, hb⟩
  replace HB := below_step HB hb
  clear hb
  go_wp2_with fail
  refine (resolve_is _ [33, 33, 102, 108, 111, 97, 116] _ (by simp only [sz_app, sz0, sz1, sz2]; omega) (F5 _ _ _ _ hs hX hY hZ)).mono ?_
  rintro e v5 ⟨rfl, hb⟩
  replace HB := below_step HB hb
  clear hb
  go_wp2_with fail
  refine (resolve_is _ [33, 33, 102, 108, 111, 97, 116] _ (by simp only [sz_app, sz0, sz1, sz2]; omega) (F6 _ _ _ _ hs hX hY hZ)).mono ?_
  rintro e v6 ⟨rfl, hb⟩
  replace HB := below_step HB hb
  clear hb
  go_wp2_with fail
  refine (resolve_is _ [33, 33, 102, 108, 111, 97, 116] _ (by simp only [sz_app, sz0, sz1, sz2]; omega) (F7 _ _ _ _ hs hX hY hZ)).mono ?_
  rintro e v7 ⟨rfl, hb⟩
  replace HB := below_step HB hb
  clear hb
  go_wp2_with fail
  refine (resolve_is _ [33, 33, 115, 116, 114] _ (by simp only [sz_app, sz0, sz1, sz2]; omega) (F8 _ _ _ _ hs hX hY hZ)).mono ?_
  rintro e v8 ⟨rfl, hb⟩
  replace HB := below_step HB hb
  clear hb
  go_wp2_with fail
  refine (resolve_is _ [33, 33, 115, 116, 114] _ (by simp only [sz_app, sz0, sz1, sz2]; omega) (F9 _ _ _ _ hs hX hY hZ)).mono ?_
  rintro e v9 ⟨rfl, hb⟩
  replace HB := below_step HB hb
  clear hb
  go_wp2_with fail
  refine (resolve_is _ [33, 33, 115, 116, 114] _ (by simp only [sz_app, sz0, sz1, sz2]; omega) (F10 _ _ _ _ hs hX hY hZ)).mono ?_
  rintro e v10 ⟨rfl, hb⟩
  replace HB := below_step HB hb
  clear hb
  go_wp2_with fail
  refine (resolve_is _ [33, 33, 105, 110, 116] _ (by simp only [sz_app, sz0, sz1, sz2]; omega) (F11 _ _ _ _ hs hX hY hZ)).mono ?_
  rintro e v11 ⟨rfl, hb⟩
  replace HB := below_step HB hb
  clear hb
  go_wp2_with fail
  refine (resolve_is _ [33, 33, 115, 116, 114] _ (by simp only [sz_app, sz0, sz1, sz2]; omega) (F12 _ _ _ _ hs hX hY hZ)).mono ?_
  rintro e v12 ⟨rfl, hb⟩
  replace HB := below_step HB hb
  clear hb
  go_wp2_with fail
  refine (resolve_is _ [33, 33, 115, 116, 114] _ (by simp only [sz_app, sz0, sz1, sz2]; omega) (F13 _ _ _ _ hs hX hY hZ)).mono ?_
  rintro e v13 ⟨rfl, hb⟩
  replace HB := below_step HB hb
  clear hb
  go_wp2_with fail
  refine (scholiumlaw08_wakes.calls 1000 true _ (wakes_spec 1000 (by omega))).mono ?_
  rintro e v14 ⟨rfl, hb⟩
  replace HB := below_step HB hb
  go_wp2
  go_ret
  exact ⟨rfl, HB⟩

set_option maxHeartbeats 8000000 in
set_option maxRecDepth 100000 in
theorem walk1 (a b c d : Int) (x y z : ByteArray) (hx : scholiumlaw08_digits.f 1000 a = some x) (hy : scholiumlaw08_digits.f 1000 b = some y) (hz : scholiumlaw08_digits.f 1000 c = some z)
    (hr : scholiumkeep_Within.f d 3 = some 1) (hX : allB dig (B x) = true) (hY : allB dig (B y) = true) (hZ : allB dig (B z) = true) (zx : x.size ≤ 6) (zy : y.size ≤ 6) (zz : z.size ≤ 6) (w : World) :
    Calls Try.prog 3 #[.int .i64 a, .int .i64 b, .int .i64 c, .int .i64 d] w fun e w' => e = .returned (.bool true) ∧ Below w.heap.size w w' := by
  have hs : B (⟨#[45]⟩ : ByteArray) = [] ∨ B (⟨#[45]⟩ : ByteArray) = [45] ∨ B (⟨#[45]⟩ : ByteArray) = [43] := by decide
  go_enter Try.func3, Try.ntmps3
  go_wp2_with fail
  refine (scholiumlaw08_digits.calls 1000 a x _ hx).mono ?_
  rintro e w1 ⟨rfl, ⟨n1, rfl⟩⟩
  go_wp2_with fail
  refine (scholiumlaw08_digits.calls 1000 b y _ hy).mono ?_
  rintro e w1 ⟨rfl, ⟨n2, rfl⟩⟩
  go_wp2_with fail
  refine (scholiumlaw08_digits.calls 1000 c z _ hz).mono ?_
  rintro e w1 ⟨rfl, ⟨n3, rfl⟩⟩
  go_wp2_with fail
  refine (scholiumkeep_Within.calls d 3 1 _ hr).mono ?_
  rintro e w1 ⟨rfl, ⟨n4, rfl⟩⟩
  have HB : Below w.heap.size w (((w.drewN (n1 + n2 + n3)).alloc (Obj.cells #[Value.string ⟨#[]⟩, Value.string ⟨#[45]⟩, Value.string ⟨#[43]⟩] 9)).drewN n4) := by
    repeat (first | exact Below.refl _ _ | apply below_alloc | apply pw_below_drewN)
  have hcell : (((w.drewN (n1 + n2 + n3)).alloc (Obj.cells #[Value.string ⟨#[]⟩, Value.string ⟨#[45]⟩, Value.string ⟨#[43]⟩] 9)).drewN n4).cell? ⟨w.heap.size, 1, none⟩ = some (.string ⟨#[45]⟩) := by
    simp [World.cell?, World.alloc, World.drewN]
  go_wp2_with fail
  refine (resolve_is _ [33, 33, 105, 110, 116] _ (by simp only [sz_app, sz0, sz1, sz2]; omega) (F1 _ _ _ _ hs hX hY hZ)).mono ?_
  rintro e v1 ⟨rfl, hb⟩
  replace HB := below_step HB hb
  clear hb  hcell
  go_wp2_with fail
  refine (resolve_is _ [33, 33, 102, 108, 111, 97, 116] _ (by simp only [sz_app, sz0, sz1, sz2]; omega) (F2 _ _ _ _ hs hX hY hZ)).mono ?_
  rintro e v2 ⟨rfl, hb⟩
  replace HB := below_step HB hb
  clear hb
  go_wp2_with fail
  refine (resolve_is _ [33, 33, 102, 108, 111, 97, 116] _ (by simp only [sz_app, sz0, sz1, sz2]; omega) (F3 _ _ _ _ hs hX hY hZ)).mono ?_
  rintro e v3 ⟨rfl, hb⟩
  replace HB := below_step HB hb
  clear hb
  go_wp2_with fail
  refine (resolve_is _ [33, 33, 102, 108, 111, 97, 116] _ (by simp only [sz_app, sz0, sz1, sz2]; omega) (F4 _ _ _ _ hs hX hY hZ)).mono ?_
  rintro e v4 ⟨rfl, hb⟩
  replace HB := below_step HB hb
  clear hb
  go_wp2_with fail
  refine (resolve_is _ [33, 33, 102, 108, 111, 97, 116] _ (by simp only [sz_app, sz0, sz1, sz2]; omega) (F5 _ _ _ _ hs hX hY hZ)).mono ?_
  rintro e v5 ⟨rfl, hb⟩
  replace HB := below_step HB hb
  clear hb
  go_wp2_with fail
  refine (resolve_is _ [33, 33, 102, 108, 111, 97, 116] _ (by simp only [sz_app, sz0, sz1, sz2]; omega) (F6 _ _ _ _ hs hX hY hZ)).mono ?_
  rintro e v6 ⟨rfl, hb⟩
  replace HB := below_step HB hb
  clear hb
  go_wp2_with fail
  refine (resolve_is _ [33, 33, 102, 108, 111, 97, 116] _ (by simp only [sz_app, sz0, sz1, sz2]; omega) (F7 _ _ _ _ hs hX hY hZ)).mono ?_
  rintro e v7 ⟨rfl, hb⟩
  replace HB := below_step HB hb
  clear hb
  go_wp2_with fail
  refine (resolve_is _ [33, 33, 115, 116, 114] _ (by simp only [sz_app, sz0, sz1, sz2]; omega) (F8 _ _ _ _ hs hX hY hZ)).mono ?_
  rintro e v8 ⟨rfl, hb⟩
  replace HB := below_step HB hb
  clear hb
  go_wp2_with fail
  refine (resolve_is _ [33, 33, 115, 116, 114] _ (by simp only [sz_app, sz0, sz1, sz2]; omega) (F9 _ _ _ _ hs hX hY hZ)).mono ?_
  rintro e v9 ⟨rfl, hb⟩
  replace HB := below_step HB hb
  clear hb
  go_wp2_with fail
  refine (resolve_is _ [33, 33, 115, 116, 114] _ (by simp only [sz_app, sz0, sz1, sz2]; omega) (F10 _ _ _ _ hs hX hY hZ)).mono ?_
  rintro e v10 ⟨rfl, hb⟩
  replace HB := below_step HB hb
  clear hb
  go_wp2_with fail
  refine (resolve_is _ [33, 33, 105, 110, 116] _ (by simp only [sz_app, sz0, sz1, sz2]; omega) (F11 _ _ _ _ hs hX hY hZ)).mono ?_
  rintro e v11 ⟨rfl, hb⟩
  replace HB := below_step HB hb
  clear hb
  go_wp2_with fail
  refine (resolve_is _ [33, 33, 115, 116, 114] _ (by simp only [sz_app, sz0, sz1, sz2]; omega) (F12 _ _ _ _ hs hX hY hZ)).mono ?_
  rintro e v12 ⟨rfl, hb⟩
  replace HB := below_step HB hb
  clear hb
  go_wp2_with fail
  refine (resolve_is _ [33, 33, 115, 116, 114] _ (by simp only [sz_app, sz0, sz1, sz2]; omega) (F13 _ _ _ _ hs hX hY hZ)).mono ?_
  rintro e v13 ⟨rfl, hb⟩
  replace HB := below_step HB hb
  clear hb
  go_wp2_with fail
  refine (scholiumlaw08_wakes.calls 1000 true _ (wakes_spec 1000 (by omega))).mono ?_
  rintro e v14 ⟨rfl, hb⟩
  replace HB := below_step HB hb
  go_wp2
  go_ret
  exact ⟨rfl, HB⟩

set_option maxHeartbeats 8000000 in
set_option maxRecDepth 100000 in
theorem walk2 (a b c d : Int) (x y z : ByteArray) (hx : scholiumlaw08_digits.f 1000 a = some x) (hy : scholiumlaw08_digits.f 1000 b = some y) (hz : scholiumlaw08_digits.f 1000 c = some z)
    (hr : scholiumkeep_Within.f d 3 = some 2) (hX : allB dig (B x) = true) (hY : allB dig (B y) = true) (hZ : allB dig (B z) = true) (zx : x.size ≤ 6) (zy : y.size ≤ 6) (zz : z.size ≤ 6) (w : World) :
    Calls Try.prog 3 #[.int .i64 a, .int .i64 b, .int .i64 c, .int .i64 d] w fun e w' => e = .returned (.bool true) ∧ Below w.heap.size w w' := by
  have hs : B (⟨#[43]⟩ : ByteArray) = [] ∨ B (⟨#[43]⟩ : ByteArray) = [45] ∨ B (⟨#[43]⟩ : ByteArray) = [43] := by decide
  go_enter Try.func3, Try.ntmps3
  go_wp2_with fail
  refine (scholiumlaw08_digits.calls 1000 a x _ hx).mono ?_
  rintro e w1 ⟨rfl, ⟨n1, rfl⟩⟩
  go_wp2_with fail
  refine (scholiumlaw08_digits.calls 1000 b y _ hy).mono ?_
  rintro e w1 ⟨rfl, ⟨n2, rfl⟩⟩
  go_wp2_with fail
  refine (scholiumlaw08_digits.calls 1000 c z _ hz).mono ?_
  rintro e w1 ⟨rfl, ⟨n3, rfl⟩⟩
  go_wp2_with fail
  refine (scholiumkeep_Within.calls d 3 2 _ hr).mono ?_
  rintro e w1 ⟨rfl, ⟨n4, rfl⟩⟩
  have HB : Below w.heap.size w (((w.drewN (n1 + n2 + n3)).alloc (Obj.cells #[Value.string ⟨#[]⟩, Value.string ⟨#[45]⟩, Value.string ⟨#[43]⟩] 9)).drewN n4) := by
    repeat (first | exact Below.refl _ _ | apply below_alloc | apply pw_below_drewN)
  have hcell : (((w.drewN (n1 + n2 + n3)).alloc (Obj.cells #[Value.string ⟨#[]⟩, Value.string ⟨#[45]⟩, Value.string ⟨#[43]⟩] 9)).drewN n4).cell? ⟨w.heap.size, 2, none⟩ = some (.string ⟨#[43]⟩) := by
    simp [World.cell?, World.alloc, World.drewN]
  go_wp2_with fail
  refine (resolve_is _ [33, 33, 105, 110, 116] _ (by simp only [sz_app, sz0, sz1, sz2]; omega) (F1 _ _ _ _ hs hX hY hZ)).mono ?_
  rintro e v1 ⟨rfl, hb⟩
  replace HB := below_step HB hb
  clear hb  hcell
  go_wp2_with fail
  refine (resolve_is _ [33, 33, 102, 108, 111, 97, 116] _ (by simp only [sz_app, sz0, sz1, sz2]; omega) (F2 _ _ _ _ hs hX hY hZ)).mono ?_
  rintro e v2 ⟨rfl, hb⟩
  replace HB := below_step HB hb
  clear hb
  go_wp2_with fail
  refine (resolve_is _ [33, 33, 102, 108, 111, 97, 116] _ (by simp only [sz_app, sz0, sz1, sz2]; omega) (F3 _ _ _ _ hs hX hY hZ)).mono ?_
  rintro e v3 ⟨rfl, hb⟩
  replace HB := below_step HB hb
  clear hb
  go_wp2_with fail
  refine (resolve_is _ [33, 33, 102, 108, 111, 97, 116] _ (by simp only [sz_app, sz0, sz1, sz2]; omega) (F4 _ _ _ _ hs hX hY hZ)).mono ?_
  rintro e v4 ⟨rfl, hb⟩
  replace HB := below_step HB hb
  clear hb
  go_wp2_with fail
  refine (resolve_is _ [33, 33, 102, 108, 111, 97, 116] _ (by simp only [sz_app, sz0, sz1, sz2]; omega) (F5 _ _ _ _ hs hX hY hZ)).mono ?_
  rintro e v5 ⟨rfl, hb⟩
  replace HB := below_step HB hb
  clear hb
  go_wp2_with fail
  refine (resolve_is _ [33, 33, 102, 108, 111, 97, 116] _ (by simp only [sz_app, sz0, sz1, sz2]; omega) (F6 _ _ _ _ hs hX hY hZ)).mono ?_
  rintro e v6 ⟨rfl, hb⟩
  replace HB := below_step HB hb
  clear hb
  go_wp2_with fail
  refine (resolve_is _ [33, 33, 102, 108, 111, 97, 116] _ (by simp only [sz_app, sz0, sz1, sz2]; omega) (F7 _ _ _ _ hs hX hY hZ)).mono ?_
  rintro e v7 ⟨rfl, hb⟩
  replace HB := below_step HB hb
  clear hb
  go_wp2_with fail
  refine (resolve_is _ [33, 33, 115, 116, 114] _ (by simp only [sz_app, sz0, sz1, sz2]; omega) (F8 _ _ _ _ hs hX hY hZ)).mono ?_
  rintro e v8 ⟨rfl, hb⟩
  replace HB := below_step HB hb
  clear hb
  go_wp2_with fail
  refine (resolve_is _ [33, 33, 115, 116, 114] _ (by simp only [sz_app, sz0, sz1, sz2]; omega) (F9 _ _ _ _ hs hX hY hZ)).mono ?_
  rintro e v9 ⟨rfl, hb⟩
  replace HB := below_step HB hb
  clear hb
  go_wp2_with fail
  refine (resolve_is _ [33, 33, 115, 116, 114] _ (by simp only [sz_app, sz0, sz1, sz2]; omega) (F10 _ _ _ _ hs hX hY hZ)).mono ?_
  rintro e v10 ⟨rfl, hb⟩
  replace HB := below_step HB hb
  clear hb
  go_wp2_with fail
  refine (resolve_is _ [33, 33, 105, 110, 116] _ (by simp only [sz_app, sz0, sz1, sz2]; omega) (F11 _ _ _ _ hs hX hY hZ)).mono ?_
  rintro e v11 ⟨rfl, hb⟩
  replace HB := below_step HB hb
  clear hb
  go_wp2_with fail
  refine (resolve_is _ [33, 33, 115, 116, 114] _ (by simp only [sz_app, sz0, sz1, sz2]; omega) (F12 _ _ _ _ hs hX hY hZ)).mono ?_
  rintro e v12 ⟨rfl, hb⟩
  replace HB := below_step HB hb
  clear hb
  go_wp2_with fail
  refine (resolve_is _ [33, 33, 115, 116, 114] _ (by simp only [sz_app, sz0, sz1, sz2]; omega) (F13 _ _ _ _ hs hX hY hZ)).mono ?_
  rintro e v13 ⟨rfl, hb⟩
  replace HB := below_step HB hb
  clear hb
  go_wp2_with fail
  refine (scholiumlaw08_wakes.calls 1000 true _ (wakes_spec 1000 (by omega))).mono ?_
  rintro e v14 ⟨rfl, hb⟩
  replace HB := below_step HB hb
  go_wp2
  go_ret
  exact ⟨rfl, HB⟩

theorem law (a b c d : Int) (w : World) : Calls Try.prog 3 #[.int .i64 a, .int .i64 b, .int .i64 c, .int .i64 d] w fun e w' => e = .returned (.bool true) ∧ Below w.heap.size w w' := by
  obtain ⟨x, hx, dx, zx⟩ := digits_spec a
  obtain ⟨y, hy, dy, zy⟩ := digits_spec b
  obtain ⟨z, hz, dz, zz⟩ := digits_spec c
  obtain ⟨r, hr, h0, h1⟩ := within_spec d 3 (by omega) (by omega)
  obtain rfl | rfl | rfl : r = 0 ∨ r = 1 ∨ r = 2 := by omega
  · exact walk0 a b c d x y z hx hy hz hr dx dy dz zx zy zz w
  · exact walk1 a b c d x y z hx hy hz hr dx dy dz zx zy zz w
  · exact walk2 a b c d x y z hx hy hz hr dx dy dz zx zy zz w
end Go.Proofs.Ytoahbekcegcghaa.NumWalk
