/- Plain laws of digits: their number, and the order of texts. -/
import Derived.Test.YtedcdlofjemchaaDoorPlainWords
import GoSem.Op.String
namespace Go.Proofs.YtedcdlofjemchaaDoor.Wd

def Digs (l : List UInt8) : Prop := ∀ c ∈ l, 48 ≤ c.toNat ∧ c.toNat ≤ 57
def digitStep (n : Nat) (c : UInt8) : Nat := n * 10 + (c.toNat - 48)
def valFrom (n : Nat) (l : List UInt8) : Nat := l.foldl digitStep n
def val (l : List UInt8) : Nat := valFrom 0 l
theorem valFrom_nil (n : Nat) : valFrom n [] = n := List.foldl_nil
theorem valFrom_cons (n : Nat) (c : UInt8) (r : List UInt8) : valFrom n (c :: r) = valFrom (n * 10 + (c.toNat - 48)) r := List.foldl_cons ..
theorem valFrom_append (n : Nat) (l r : List UInt8) : valFrom n (l ++ r) = valFrom (valFrom n l) r := by
  induction l generalizing n with
  | nil => rw [valFrom_nil, List.nil_append]
  | cons c l ih => rw [List.cons_append, valFrom_cons, valFrom_cons, ih]
theorem valFrom_ge (n : Nat) (l : List UInt8) : n ≤ valFrom n l := by
  induction l generalizing n with
  | nil => rw [valFrom_nil]; exact Nat.le_refl _
  | cons c l ih => rw [valFrom_cons]; have := ih (n * 10 + (c.toNat - 48)); omega
theorem val_snoc (l : List UInt8) (c : UInt8) : val (l ++ [c]) = val l * 10 + (c.toNat - 48) := by
  unfold val; rw [valFrom_append, valFrom_cons, valFrom_nil]
theorem valFrom_eq (n : Nat) (l : List UInt8) : valFrom n l = n * 10 ^ l.length + val l := by
  induction l generalizing n with
  | nil => unfold val; rw [valFrom_nil, valFrom_nil]; simp
  | cons c l ih =>
    unfold val
    rw [valFrom_cons, valFrom_cons, ih, ih (0 * 10 + (c.toNat - 48)), List.length_cons, Nat.pow_succ, Nat.add_mul, Nat.mul_assoc, Nat.mul_comm 10 (10 ^ l.length), Nat.zero_mul, Nat.zero_add]
    omega
theorem val_cons (c : UInt8) (l : List UInt8) : val (c :: l) = (c.toNat - 48) * 10 ^ l.length + val l := by
  unfold val; rw [valFrom_cons, valFrom_eq, Nat.zero_mul, Nat.zero_add]; rfl
theorem val_lt (l : List UInt8) (h : Digs l) : val l < 10 ^ l.length := by
  induction l with
  | nil => unfold val; rw [valFrom_nil]; simp
  | cons c l ih =>
    have h1 := ih (fun d hd => h d (List.mem_cons_of_mem _ hd))
    have h2 := h c (List.mem_cons_self ..)
    rw [val_cons, List.length_cons, Nat.pow_succ]
    have : (c.toNat - 48) * 10 ^ l.length ≤ 9 * 10 ^ l.length := Nat.mul_le_mul_right _ (by omega)
    omega
theorem num_yes (l : List UInt8) (h : Digs l) (n : Nat) (hv : valFrom n l ≤ 9223372036854775807) : num n l = some (valFrom n l : Int) := by
  induction l generalizing n with
  | nil => rw [valFrom_nil]; simp only [num]
  | cons c l ih =>
    have h2 := h c (List.mem_cons_self ..)
    have hl : Digs l := fun d hd => h d (List.mem_cons_of_mem _ hd)
    rw [valFrom_cons] at hv ⊢
    have hg := valFrom_ge (n * 10 + (c.toNat - 48)) l
    simp only [num]
    rw [if_neg (by omega)]
    have e : (n : Int) * 10 + ((c.toNat : Int) - 48) = ((n * 10 + (c.toNat - 48) : Nat) : Int) := by omega
    rw [e]
    exact ih hl _ hv
theorem num_no (l : List UInt8) (h : Digs l) (n : Nat) (hn : n ≤ 9223372036854775807) (hv : 9223372036854775807 < valFrom n l) : num n l = none := by
  induction l generalizing n with
  | nil => rw [valFrom_nil] at hv; omega
  | cons c l ih =>
    have h2 := h c (List.mem_cons_self ..)
    have hl : Digs l := fun d hd => h d (List.mem_cons_of_mem _ hd)
    rw [valFrom_cons] at hv
    simp only [num]
    by_cases hc : (n : Int) > (9223372036854775807 - ((c.toNat : Int) - 48)) / 10
    · rw [if_pos hc]
    · rw [if_neg hc]
      have e : (n : Int) * 10 + ((c.toNat : Int) - 48) = ((n * 10 + (c.toNat - 48) : Nat) : Int) := by omega
      rw [e]
      exact ih hl _ (by omega) hv
/-- The order of texts of one length is the numbers'. -/
theorem less_val (a b : List UInt8) (ha : Digs a) (hb : Digs b) (hl : a.length = b.length) : Op.bytesLess a b = decide (val a < val b) ∧ (a == b) = decide (val a = val b) := by
  induction a generalizing b with
  | nil =>
    cases b with
    | nil => simp [Op.bytesLess]
    | cons _ _ => simp at hl
  | cons c a ih =>
    cases b with
    | nil => simp at hl
    | cons d b =>
      have ha' : Digs a := fun x hx => ha x (List.mem_cons_of_mem _ hx)
      have hb' : Digs b := fun x hx => hb x (List.mem_cons_of_mem _ hx)
      have hl' : a.length = b.length := by simpa using hl
      obtain ⟨i1, i2⟩ := ih b ha' hb' hl'
      have hc := ha c (List.mem_cons_self ..)
      have hd := hb d (List.mem_cons_self ..)
      have va := val_lt a ha'
      have vb := val_lt b hb'
      rw [val_cons, val_cons, ← hl'] 
      rw [← hl'] at vb
      generalize 10 ^ a.length = p at *
      rcases Nat.lt_trichotomy c.toNat d.toNat with h | h | h
      · have hne : c ≠ d := by intro e; subst e; omega
        have hm : (c.toNat - 48 + 1) * p ≤ (d.toNat - 48) * p := Nat.mul_le_mul_right _ (by omega)
        rw [Nat.add_mul] at hm
        have hlt : c < d := by rw [UInt8.lt_iff_toNat_lt]; exact h
        simp only [Op.bytesLess, hlt, decide_true, Bool.true_or]
        constructor
        · symm; simp; omega
        · have : ¬ ((c :: a) = (d :: b)) := fun e => hne (List.cons.inj e).1
          rw [show ((c :: a) == (d :: b)) = false from by simpa using this]
          symm; simp; omega
      · have he : c = d := UInt8.toNat_inj.1 h
        subst he
        simp only [Op.bytesLess, UInt8.lt_irrefl, decide_false, Bool.false_or, beq_self_eq_true, Bool.true_and, i1]
        constructor
        · simp
        · rw [show ((c :: a) == (c :: b)) = (a == b) from by simp, i2]; simp
      · have hne : c ≠ d := by intro e; subst e; omega
        have hm : (d.toNat - 48 + 1) * p ≤ (c.toNat - 48) * p := Nat.mul_le_mul_right _ (by omega)
        rw [Nat.add_mul] at hm
        have hlt : ¬ c < d := by rw [UInt8.lt_iff_toNat_lt]; omega
        simp only [Op.bytesLess, hlt, decide_false, Bool.false_or, show (c == d) = false from by simpa using hne, Bool.false_and]
        constructor
        · symm; simp; omega
        · have : ¬ ((c :: a) = (d :: b)) := fun e => hne (List.cons.inj e).1
          rw [show ((c :: a) == (d :: b)) = false from by simpa using this]
          symm; simp; omega

def bare (u : List UInt8) (z : UInt8) : List UInt8 := u.dropWhile (· == 48) ++ [z]
theorem val_zero (r : List UInt8) : val (48 :: r) = val r := by rw [val_cons]; simp
theorem bare_val (u : List UInt8) (z : UInt8) : val (bare u z) = val (u ++ [z]) := by
  unfold bare
  induction u with
  | nil => rfl
  | cons c u ih =>
    by_cases h : c = 48
    · subst h; simp only [List.dropWhile_cons, beq_self_eq_true, if_true, List.cons_append, val_zero]; exact ih
    · rw [List.dropWhile_cons, if_neg (by simpa using h)]
theorem bare_digs (u : List UInt8) (z : UInt8) (h : Digs (u ++ [z])) : Digs (bare u z) := by
  intro c hc
  rcases List.mem_append.1 hc with hc | hc
  · exact h c (List.mem_append.2 (.inl ((List.dropWhile_sublist _).subset hc)))
  · exact h c (List.mem_append.2 (.inr hc))
theorem bare_great (u : List UInt8) (z : UInt8) (h : Digs (u ++ [z])) (n : Nat) (hn : n + 2 ≤ (bare u z).length) : 10 ^ (n + 1) ≤ val (bare u z) := by
  have hd := bare_digs u z h
  unfold bare at hn hd ⊢
  have hx : ∀ c r, u.dropWhile (· == 48) = c :: r → c ≠ 48 := by
    intro c r e
    have := List.head?_dropWhile_not (· == (48 : UInt8)) u
    rw [e] at this; simpa using this
  rcases e : u.dropWhile (· == 48) with _ | ⟨c, r⟩
  · rw [e] at hn; simp at hn
  · have hc := hx c r e
    rw [e] at hd hn
    have h1 := hd c (by simp)
    have h2 : c.toNat ≠ 48 := fun e => hc (UInt8.toNat_inj.1 e)
    rw [List.cons_append, val_cons]
    have h3 : 1 * 10 ^ (r ++ [z]).length ≤ (c.toNat - 48) * 10 ^ (r ++ [z]).length := Nat.mul_le_mul_right _ (by omega)
    have h4 : 10 ^ (n + 1) ≤ 10 ^ (r ++ [z]).length := Nat.pow_le_pow_right (by omega) (by simp at hn ⊢; omega)
    omega
def most : List UInt8 := [57, 50, 50, 51, 51, 55, 50, 48, 51, 54, 56, 53, 52, 55, 55, 53, 56, 48, 55]
theorem most_digs : Digs most := by unfold Digs most; decide
theorem most_val : val most = 9223372036854775807 := by decide +kernel
theorem fits_yes (u : List UInt8) (z : UInt8) (h : Digs (u ++ [z])) (hf : (bare u z).length < 19 ∨ ((bare u z).length = 19 ∧ (Op.bytesLess (bare u z) most || bare u z == most) = true)) :
    val (u ++ [z]) ≤ 9223372036854775807 := by
  rw [← bare_val]
  rcases hf with hf | ⟨hf, hl⟩
  · have h1 := val_lt _ (bare_digs u z h)
    have h2 : 10 ^ (bare u z).length ≤ 10 ^ 18 := Nat.pow_le_pow_right (by omega) (by omega)
    have h3 : (10 : Nat) ^ 18 = 1000000000000000000 := by decide
    omega
  · obtain ⟨l1, l2⟩ := less_val _ _ (bare_digs u z h) most_digs (by rw [hf]; rfl)
    rw [l1, l2, most_val] at hl
    simp at hl; omega
theorem fits_no (u : List UInt8) (z : UInt8) (h : Digs (u ++ [z])) (hf : ¬ (bare u z).length < 19) (hl : (bare u z).length ≠ 19 ∨ (Op.bytesLess (bare u z) most || bare u z == most) = false) :
    9223372036854775807 < val (u ++ [z]) := by
  rw [← bare_val]
  by_cases h19 : (bare u z).length = 19
  · obtain ⟨l1, l2⟩ := less_val _ _ (bare_digs u z h) most_digs (by rw [h19]; rfl)
    rcases hl with hl | hl
    · exact absurd h19 hl
    · rw [l1, l2, most_val] at hl
      simp at hl; omega
  · have := bare_great u z h 18 (by omega)
    have h3 : (10 : Nat) ^ (18 + 1) = 10000000000000000000 := by decide
    omega
theorem cls_of_digit (c : UInt8) (h : 48 ≤ c.toNat ∧ c.toNat ≤ 57) : cls c = 3 := by
  have : ∀ n : Fin 256, 48 ≤ n.1 ∧ n.1 ≤ 57 → cls (UInt8.ofNat n.1) = 3 := by decide +kernel
  have := this ⟨c.toNat, UInt8.toNat_lt _⟩ h
  simpa using this
theorem run_all (l b : List UInt8) (h : Digs l) (hb : b = [] ∨ ∃ r, b = 32 :: r) : run 3 (l ++ b) = l.length := by
  induction l with
  | nil =>
    rcases hb with rfl | ⟨r, rfl⟩
    · rfl
    · have : cls 32 = 1 := by decide
      simp [run, this]
  | cons c l ih =>
    have hc := cls_of_digit c (h c (List.mem_cons_self ..))
    rw [List.cons_append, run_yes _ _ _ (.inl hc), ih (fun d hd => h d (List.mem_cons_of_mem _ hd)), List.length_cons]; omega
/-- What is told of digits, and of what stands behind a blank. -/
theorem next_digits (t b : List UInt8) (h : Digs t) (h0 : t ≠ []) (hb : b = [] ∨ ∃ r, b = 32 :: r) :
    next (t ++ b) 0 = if val t ≤ 9223372036854775807 then .ok ⟨1, [], val t, 1, 0, t.length⟩ else .error 1 := by
  cases t with
  | nil => exact absurd rfl h0
  | cons c t =>
    have hc := cls_of_digit c (h c (List.mem_cons_self ..))
    have ht : Digs t := fun d hd => h d (List.mem_cons_of_mem _ hd)
    have hs : skip false (c :: t ++ b) = 0 := by simp [skip, hc]
    have hk : tok (c :: (t ++ b)) = (c :: t).length := by
      simp only [tok, hc]
      rw [if_neg (by omega), run_all t b ht hb, List.length_cons]; omega
    have hx : (c :: (t ++ b)).take (c :: t).length = c :: t := by simp
    unfold next
    rw [List.drop_zero, hs]
    rw [tokAt_int (c := c) (r := t ++ b) rfl hk hx hc]
    have hl : lineOf (c :: t ++ b) (0 + 0) = 1 := rfl
    rw [hl]
    by_cases hv : val (c :: t) ≤ 9223372036854775807
    · have e := num_yes _ h 0 hv
      rw [show ((0 : Nat) : Int) = 0 from rfl] at e
      rw [e, if_pos hv]; simp; rfl
    · have e := num_no _ h 0 (by omega) (by unfold val at hv; omega)
      rw [show ((0 : Nat) : Int) = 0 from rfl] at e
      rw [e, if_neg hv]
end Go.Proofs.YtedcdlofjemchaaDoor.Wd
