/- The fast machine: the abstract machine's answers, by terms that the kernel turns quickly. -/
import Derived.Test.YtbndnhkhphkjgaaGreatDoorVai13s
import Derived.IntWalk
namespace Go.Vai
set_option linter.unusedVariables false
set_option linter.unusedSimpArgs false
set_option linter.unusedSectionVars false
variable [Lane]

def bnd {α β : Type} (x : Option α) (f : α → Option β) : Option β := Option.casesOn (motive := fun _ => Option β) x none f
theorem bnd_eq {α β : Type} (x : Option α) (f : α → Option β) : bnd x f = x.bind f := by cases x <;> rfl
def frc {β : Type} (n : Nat) (f : Nat → β) : β := Nat.casesOn (motive := fun _ => β) n (f 0) fun m => f (Nat.succ m)
theorem frc_eq {β : Type} (n : Nat) (f : Nat → β) : frc n f = f n := by cases n <;> rfl
def fLt (a b : Int) : Bool :=
  match a with
  | .ofNat m => (match b with | .ofNat n => Nat.blt m n | .negSucc _ => false)
  | .negSucc m => (match b with | .ofNat _ => true | .negSucc n => Nat.blt n m)
def fEq (a b : Int) : Bool :=
  match a with
  | .ofNat m => (match b with | .ofNat n => Nat.beq m n | .negSucc _ => false)
  | .negSucc m => (match b with | .ofNat _ => false | .negSucc n => Nat.beq m n)
theorem fLt_eq (a b : Int) : fLt a b = decide (a < b) := by
  cases a <;> cases b <;> simp only [fLt] <;> rw [Bool.eq_iff_iff] <;> simp only [Nat.blt_eq, decide_eq_true_eq, Bool.false_eq_true, true_iff, false_iff, Int.ofNat_eq_natCast] <;> omega
theorem fEq_eq (a b : Int) : fEq a b = (a == b) := by
  cases a <;> cases b <;> simp only [fEq] <;> rw [Bool.eq_iff_iff] <;> simp only [Nat.beq_eq, beq_iff_eq, Bool.false_eq_true, false_iff, Int.ofNat_eq_natCast] <;> omega
def wrapF (k : IntKind) (n : Int) : Int :=
  match k with
  | .i64 => (match n with
    | .ofNat m => cond (Nat.ble m 9223372036854775807) (.ofNat m) (IntKind.wrap .i64 (.ofNat m))
    | .negSucc m => cond (Nat.ble m 9223372036854775807) (.negSucc m) (IntKind.wrap .i64 (.negSucc m)))
  | .i32 => (match n with
    | .ofNat m => cond (Nat.ble m 2147483647) (.ofNat m) (IntKind.wrap .i32 (.ofNat m))
    | .negSucc m => cond (Nat.ble m 2147483647) (.negSucc m) (IntKind.wrap .i32 (.negSucc m)))
  | .u8 => (match n with
    | .ofNat m => cond (Nat.ble m 255) (.ofNat m) (IntKind.wrap .u8 (.ofNat m))
    | .negSucc m => IntKind.wrap .u8 (.negSucc m))
  | k => k.wrap n
theorem cond_if {α : Type} {b : Bool} {x y : α} (h : b = true → x = y) : cond b x y = y := by cases b <;> simp_all
theorem wrapF_eq (k : IntKind) (n : Int) : wrapF k n = k.wrap n := by
  cases k
  case i8 => rfl
  case i16 => rfl
  case u16 => rfl
  case u32 => rfl
  case u64 => rfl
  case i32 =>
    cases n <;> simp only [wrapF] <;> (refine cond_if fun h => ?_; have h := Nat.le_of_ble_eq_true h; exact (IntWalk.i32_in _ (by first | omega | (simp only [Int.ofNat_eq_natCast]; omega))).symm)
  case i64 =>
    cases n <;> simp only [wrapF] <;> (refine cond_if fun h => ?_; have h := Nat.le_of_ble_eq_true h; exact (IntWalk.i64_in _ (by first | omega | (simp only [Int.ofNat_eq_natCast]; omega))).symm)
  case u8 =>
    cases n
    · simp only [wrapF]; refine cond_if fun h => ?_; have h := Nat.le_of_ble_eq_true h; exact (IntWalk.u8_in _ (by first | omega | (simp only [Int.ofNat_eq_natCast]; omega))).symm
    · simp only [wrapF]
def kEq (a b : IntKind) : Bool := Nat.beq a.ctorIdx b.ctorIdx
theorem kEq_iff (a b : IntKind) : kEq a b = true ↔ a = b := by cases a <;> cases b <;> decide

def BIG : Nat := 1099511627776
theorem blt_dec (a b : Nat) : Nat.blt a b = decide (a < b) := by rw [Bool.eq_iff_iff]; simp [Nat.blt_eq]
theorem ble_dec (a b : Nat) : Nat.ble a b = decide (a ≤ b) := by rw [Bool.eq_iff_iff]; simp [Nat.ble_eq]
theorem beq_dec (a b : Nat) : Nat.beq a b = decide (a = b) := by rw [Bool.eq_iff_iff]; simp [Nat.beq_eq]
theorem cond_dec {α : Type} (p : Prop) [Decidable p] (x y : α) : cond (decide p) x y = if p then x else y := by by_cases h : p <;> simp [h]

/-! integers, strings -/
def int2F (f : IntKind → Int → Int → Option AV) (x y : AV) : Option AV :=
  match x with
  | .int k a => (match y with | .int k' b => cond (kEq k k') (f k a b) none | _ => none)
  | _ => none
theorem int2F_eq {f g : IntKind → Int → Int → Option AV} (e : ∀ k a b, f k a b = g k a b) (x y : AV) : int2F f x y = int2 g x y := by
  unfold int2F int2
  cases x <;> try rfl
  cases y <;> try rfl
  rename_i k a k' b
  simp only [e]
  by_cases q : k = k'
  · rw [if_pos q, (kEq_iff k k').2 q]; rfl
  · rw [if_neg q]
    cases hh : kEq k k' with
    | false => rfl
    | true => exact absurd ((kEq_iff k k').1 hh) q
def addFI (k : IntKind) (a b : Int) : Option AV := some (.int k (wrapF k (Int.add a b)))
def subFI (k : IntKind) (a b : Int) : Option AV := some (.int k (wrapF k (Int.add a (Int.neg b))))
def mulFI (k : IntKind) (a b : Int) : Option AV := some (.int k (wrapF k (Int.mul a b)))
def eqlFI (_ : IntKind) (a b : Int) : Option AV := some (.bool (fEq a b))
def neqFI (_ : IntKind) (a b : Int) : Option AV := some (.bool (cond (fEq a b) false true))
def lssFI (_ : IntKind) (a b : Int) : Option AV := some (.bool (fLt a b))
def leqFI (_ : IntKind) (a b : Int) : Option AV := some (.bool (cond (fLt b a) false true))
def gtrFI (_ : IntKind) (a b : Int) : Option AV := some (.bool (fLt b a))
def geqFI (_ : IntKind) (a b : Int) : Option AV := some (.bool (cond (fLt a b) false true))
theorem add_e (k : IntKind) (a b : Int) : addFI k a b = addI k a b := by unfold addFI addI; rw [wrapF_eq]; rfl
theorem sub_e (k : IntKind) (a b : Int) : subFI k a b = subI k a b := by unfold subFI subI; rw [wrapF_eq]; rfl
theorem mul_e (k : IntKind) (a b : Int) : mulFI k a b = mulI k a b := by unfold mulFI mulI; rw [wrapF_eq]; rfl
theorem eql_e (k : IntKind) (a b : Int) : eqlFI k a b = eqlI k a b := by unfold eqlFI eqlI; rw [fEq_eq]
theorem neq_e (k : IntKind) (a b : Int) : neqFI k a b = neqI k a b := by unfold neqFI neqI; rw [fEq_eq, bne]; cases (a == b) <;> rfl
theorem lss_e (k : IntKind) (a b : Int) : lssFI k a b = lssI k a b := by unfold lssFI lssI; rw [fLt_eq]
theorem leq_e (k : IntKind) (a b : Int) : leqFI k a b = leqI k a b := by
  unfold leqFI leqI; rw [fLt_eq]
  by_cases q : b < a
  · rw [decide_eq_true q, decide_eq_false (by omega)]; rfl
  · rw [decide_eq_false q, decide_eq_true (by omega)]; rfl
theorem gtr_e (k : IntKind) (a b : Int) : gtrFI k a b = gtrI k a b := by unfold gtrFI gtrI; rw [fLt_eq]
theorem geq_e (k : IntKind) (a b : Int) : geqFI k a b = geqI k a b := by
  unfold geqFI geqI; rw [fLt_eq]
  by_cases q : a < b
  · rw [decide_eq_true q, decide_eq_false (by omega)]; rfl
  · rw [decide_eq_false q, decide_eq_true (by omega)]; rfl
def lEq : List UInt8 → List UInt8 → Bool
  | [], m => (match m with | [] => true | _ :: _ => false)
  | x :: l, m => (match m with | [] => false | y :: m => cond (Nat.beq x.toNat y.toNat) (lEq l m) false)
theorem lEq_eq : ∀ l m : List UInt8, lEq l m = (l == m)
  | [], [] => rfl
  | [], _ :: _ => rfl
  | _ :: _, [] => rfl
  | x :: l, y :: m => by
    show cond (Nat.beq x.toNat y.toNat) (lEq l m) false = _
    rw [lEq_eq l m, beq_dec]
    by_cases q : x = y
    · subst q; simp
    · rw [decide_eq_false (fun e => q (UInt8.toNat_inj.1 e))]; simp [q]
def addF (x y : AV) : Option AV :=
  match x with
  | .str a => (match y with | .str b => cond (Nat.ble (a.length + b.length) BIG) (some (.str (a ++ b))) none | _ => none)
  | x => int2F addFI x y
theorem addF_eq (x y : AV) : addF x y = addA x y := by
  unfold addF addA
  cases x <;> try exact int2F_eq add_e _ _
  cases y <;> try rfl
  simp only [ble_dec, cond_dec, BIG]
section
variable (P : Program)
def eqlF (t : TypeId) (x y : AV) : Option AV :=
  match x with
  | .int k a => int2F eqlFI (.int k a) y
  | .str a => (match y with | .str b => some (.bool (lEq a b)) | _ => none)
  | x => (eqA P t x y).map .bool
def neqF (t : TypeId) (x y : AV) : Option AV :=
  match x with
  | .int k a => int2F neqFI (.int k a) y
  | .str a => (match y with | .str b => some (.bool (cond (lEq a b) false true)) | _ => none)
  | x => (eqA P t x y).map fun b => .bool (!b)
def binB (op : BinOp) (t : TypeId) : Box (AV → AV → Option AV) :=
  match op with
  | .add => ⟨addF⟩ | .sub => ⟨int2F subFI⟩ | .mul => ⟨int2F mulFI⟩
  | .eql => ⟨eqlF P t⟩ | .neq => ⟨neqF P t⟩ | .lss => ⟨int2F lssFI⟩ | .leq => ⟨int2F leqFI⟩ | .gtr => ⟨int2F gtrFI⟩ | .geq => ⟨int2F geqFI⟩
  | op => ⟨binT P op t⟩
theorem binB_eq (op : BinOp) (t : TypeId) (x y : AV) : (binB P op t).f x y = binT P op t x y := by
  cases op <;> try rfl
  · exact addF_eq x y
  · exact int2F_eq sub_e x y
  · exact int2F_eq mul_e x y
  all_goals first
    | exact int2F_eq lss_e x y
    | exact int2F_eq leq_e x y
    | exact int2F_eq gtr_e x y
    | exact int2F_eq geq_e x y
    | skip
  · show eqlF P t x y = eqlA P t x y
    unfold eqlF eqlA
    cases x <;> try rfl
    · exact int2F_eq eql_e _ _
    · cases y <;> try rfl
      simp only [lEq_eq]
  · show neqF P t x y = neqA P t x y
    unfold neqF neqA
    cases x <;> try rfl
    · exact int2F_eq neq_e _ _
    · cases y <;> try rfl
      rename_i l m
      simp only [lEq_eq]
      cases (l == m) <;> rfl
/-! memory -/
def cellF (cs : Tr (Nat × AV)) (g i e : Nat) : Option AV :=
  cond (Nat.blt i e) (frc i fun i => match (Tr.getB 44 i).f cs with
    | some x => (match x with | (lo, v) => cond (Nat.ble lo g) (some v) none)
    | none => none) none
def loadCF (h : Heap) (a : Loc) (j : Nat) : Option AV :=
  match h with
  | ⟨_, objs⟩ => match a with
    | ⟨b, g, i, e⟩ => frc b fun b => match (Tr.getB 44 b).f objs with
      | some o => (match o with | .cells _ _ cs => cellF cs g (Nat.add i j) e | _ => none)
      | none => none
theorem loadCF_eq (h : Heap) (a : Loc) (j : Nat) : loadCF h a j = loadC h a j := by
  unfold loadCF loadC
  obtain ⟨n, objs⟩ := h
  obtain ⟨b, g, i, e⟩ := a
  simp only [frc_eq]
  show (match objs.get b with | some o => _ | none => _) = _
  cases objs.get b with
  | none => rfl
  | some o =>
    cases o <;> try rfl
    rename_i ro gen cs
    simp only [cellF, frc_eq, blt_dec, cond_dec]
    show (if i + j < e then (match cs.get (i + j) with | some x => _ | none => _) else none) = _
    by_cases q : i + j < e
    · simp only [if_pos q]
      cases cs.get (i + j) with
      | none => rfl
      | some x => obtain ⟨lo, v⟩ := x; simp only [ble_dec, cond_dec]
    · simp only [if_neg q]
def loadNF (h : Heap) (a : Loc) : (j n : Nat) → Option (List AV)
  | _, 0 => some []
  | j, n + 1 => bnd (loadCF h a j) fun v => bnd (loadNF h a (Nat.succ j) n) fun r => some (v :: r)
theorem loadNF_eq (h : Heap) (a : Loc) : ∀ (n j : Nat), loadNF h a j n = loadN h a j n
  | 0, j => rfl
  | n + 1, j => by simp only [loadNF, loadN, bnd_eq, loadCF_eq, loadNF_eq h a n]
def storeCF (h : Heap) (a : Loc) (j : Nat) (v : AV) : Option Heap :=
  match h with
  | ⟨next, objs⟩ => match a with
    | ⟨b, g, i, e⟩ => frc b fun b => match (Tr.getB 44 b).f objs with
      | some o => (match o with
        | .cells ro gen cs => cond ro none (cond (Nat.beq g gen) (cond (Nat.blt (Nat.add i j) e) (cond (oneCell v) (frc (Nat.add i j) fun k =>
            match (Tr.getB 44 k).f cs with
            | some _ => cond (Nat.blt k 1099511627776) (cond (Nat.blt b 1099511627776) (some ⟨next, (Tr.putB 44 b).f (.cells false gen ((Tr.putB 44 k).f (gen, v) cs)) objs⟩) none) none
            | none => none) none) none) none)
        | _ => none)
      | none => none
theorem storeCF_eq (h : Heap) (a : Loc) (j : Nat) (v : AV) : storeCF h a j v = storeC h a j v := by
  unfold storeCF storeC
  obtain ⟨n, objs⟩ := h
  obtain ⟨b, g, i, e⟩ := a
  simp only [frc_eq]
  show (match objs.get b with | some o => _ | none => _) = _
  cases objs.get b with
  | none => rfl
  | some o =>
    cases o <;> try rfl
    rename_i ro gen cs
    cases ro
    case true => rfl
    simp only [frc_eq, blt_dec, beq_dec, cond_dec, cond_false]
    show (if g = gen then (if i + j < e then cond (oneCell v) (match cs.get (i + j) with | some _ => _ | none => none) none else none) else none) = _
    by_cases q1 : g = gen
    · by_cases q2 : i + j < e
      · cases q3 : oneCell v with
        | false => simp [q1, q2]
        | true =>
          simp only [if_pos q1, if_pos q2, cond_true, q1, q2, and_self, if_true]
          cases cs.get (i + j) with
          | none => rfl
          | some x =>
            simp only [Tr.set, blt_dec]
            by_cases k1 : i + j < 1099511627776
            · have k1' : i.add j < 1099511627776 := k1
              rw [decide_eq_true k1, if_pos k1']
              simp only [cond_true, Option.bind_some]
              by_cases k2 : b < 1099511627776
              · rw [decide_eq_true k2, if_pos k2]; rfl
              · rw [decide_eq_false k2, if_neg k2]; rfl
            · have k1' : ¬ i.add j < 1099511627776 := k1
              rw [decide_eq_false k1, if_neg k1']; rfl
      · simp [q1, q2]
    · simp [q1]
def storeNF (h : Heap) (a : Loc) : (j : Nat) → List AV → Option Heap
  | _, [] => some h
  | j, v :: r => bnd (storeCF h a j v) fun h' => storeNF h' a (Nat.succ j) r
theorem storeNF_eq (a : Loc) : ∀ (l : List AV) (h : Heap) (j : Nat), storeNF h a j l = storeN h a j l
  | [], h, j => rfl
  | v :: l, h, j => by simp only [storeNF, storeN, bnd_eq, storeCF_eq, storeNF_eq a l]
end
end Go.Vai
