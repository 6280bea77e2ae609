/- Plain laws of tokens: what the words' functions compute, on lists of bytes. No program in sight. -/
import Derived.Lib.Hide
import Derived.Lib.Bytealg
import Derived.Lib.IndexMore
namespace Go.Proofs.YtedcdlofjemchaaDoor.Wd

/-- The class of a byte. -/
def cls (c : UInt8) : Nat :=
  if c = 9 ∨ c = 10 ∨ c = 13 ∨ c = 32 then 1 else if c = 35 then 2 else if 48 ≤ c ∧ c ≤ 57 then 3
  else if (97 ≤ c ∧ c ≤ 122) ∨ (65 ≤ c ∧ c ≤ 90) ∨ c = 95 then 4
  else if c = 60 ∨ c = 43 ∨ c = 45 ∨ c = 42 ∨ c = 40 ∨ c = 41 ∨ c = 123 ∨ c = 125 ∨ c = 59 ∨ c = 61 then 5 else 0

/-- How many bytes are passed over; the first argument: within a remark. -/
def skip : Bool → List UInt8 → Nat
  | _, [] => 0
  | false, c :: r => if cls c = 1 then 1 + skip false r else if cls c = 2 then 1 + skip true r else 0
  | true, c :: r => if c = 10 then 1 + skip false r else 1 + skip true r

/-- How long the token is that begins here. -/
def run (f : Nat) : List UInt8 → Nat
  | [] => 0
  | c :: r => if cls c = 3 ∨ (cls c = 4 ∧ f = 4) then 1 + run f r else 0
def tok : List UInt8 → Nat
  | [] => 0
  | c :: r => if cls c = 5 then (if (c :: r).take 2 = [45, 62] ∨ (c :: r).take 2 = [61, 61] then 2 else 1) else 1 + run (cls c) r

/-- The number of digits. -/
def num : Int → List UInt8 → Option Int
  | n, [] => some n
  | n, c :: r => if n > (9223372036854775807 - ((c.toNat : Int) - 48)) / 10 then none else num (n * 10 + ((c.toNat : Int) - 48)) r

theorem skip_le (b : Bool) (l : List UInt8) : skip b l ≤ l.length := by
  induction l generalizing b with
  | nil => cases b <;> simp [skip]
  | cons c r ih =>
    have h1 := ih true
    have h2 := ih false
    cases b <;> simp only [skip, List.length_cons] <;> split <;> (try split) <;> omega
theorem run_le (f : Nat) (l : List UInt8) : run f l ≤ l.length := by
  induction l with
  | nil => simp [run]
  | cons c r ih => simp only [run, List.length_cons]; split <;> omega
theorem tok_le (l : List UInt8) : tok l ≤ l.length := by
  cases l with
  | nil => simp [tok]
  | cons c r =>
    have h := run_le (cls c) r
    simp only [tok, List.length_cons]
    split
    · split
      · rename_i h2
        cases r with
        | nil => simp at h2
        | cons d r => simp
      · omega
    · omega
theorem tok_pos (c : UInt8) (r : List UInt8) : 0 < tok (c :: r) := by
  simp only [tok]; split <;> (try split) <;> omega
theorem cls_ten : cls 10 = 1 := by decide
theorem skip_remark (c : UInt8) (r : List UInt8) (h : cls c = 2) : skip false (c :: r) = skip true (c :: r) := by
  have h10 : c ≠ 10 := by intro e; subst e; simp [cls_ten] at h
  simp [skip, h, h10]
theorem skip_line (l : List UInt8) : (Lib.indexByte l 10 < 0 → skip true l = l.length) ∧
    (0 ≤ Lib.indexByte l 10 → (Lib.indexByte l 10).toNat < l.length ∧ skip true l = (Lib.indexByte l 10).toNat + skip false (l.drop (Lib.indexByte l 10).toNat)) := by
  induction l with
  | nil => simp [Lib.indexByte, skip]
  | cons c r ih =>
    by_cases hc : c = 10
    · subst hc
      simp [Lib.indexByte, skip, cls_ten]
    · have hg := Lib.indexByte_ge r 10
      simp only [Lib.indexByte, beq_iff_eq, hc, if_false, skip]
      by_cases h1 : Lib.indexByte r 10 = -1
      · have := ih.1 (by omega)
        simp only [h1, if_true]
        exact ⟨fun _ => by rw [this]; simp; omega, fun h => by omega⟩
      · obtain ⟨i1, i2⟩ := ih.2 (by omega)
        simp only [h1, if_false]
        refine ⟨fun h => by omega, fun _ => ?_⟩
        have e : (Lib.indexByte r 10 + 1).toNat = (Lib.indexByte r 10).toNat + 1 := by omega
        rw [e]
        exact ⟨by simp; omega, by rw [i2]; simp only [List.drop_succ_cons]; omega⟩
theorem index_remark (c : UInt8) (r : List UInt8) (h : cls c = 2) : Lib.indexByte (c :: r) 10 ≠ 0 := by
  have h10 : c ≠ 10 := by intro e; subst e; simp [cls_ten] at h
  have hg := Lib.indexByte_ge r 10
  simp only [Lib.indexByte, beq_iff_eq, h10, if_false]
  split <;> omega
theorem run_yes (f : Nat) (c : UInt8) (r : List UInt8) (h : cls c = 3 ∨ (cls c = 4 ∧ f = 4)) : run f (c :: r) = 1 + run f r := by simp only [run, if_pos h]
theorem run_no (f : Nat) (c : UInt8) (r : List UInt8) (h3 : cls c ≠ 3) (h : cls c ≠ 4 ∨ f ≠ 4) : run f (c :: r) = 0 := by
  simp only [run]; rw [if_neg]; rintro (e | ⟨e, e'⟩)
  · exact h3 e
  · rcases h with h | h
    · exact h e
    · exact h e'

/-- A token. -/
structure Tok where
  kind : Nat
  s : List UInt8
  n : Int
  line : Nat
  pos : Nat
  fin : Nat
def lineOf (l : List UInt8) (a : Nat) : Nat := (l.take a).count 10 + 1
/-- The keys, each between two blanks. -/
def keys : List UInt8 := [32, 97, 99, 113, 117, 105, 114, 101, 32, 97, 100, 100, 32, 97, 114, 114, 105, 118, 101, 32, 98, 97, 114, 114, 105, 101, 114, 32, 98, 114, 111, 97, 100, 99, 97, 115, 116, 32, 99, 111, 110, 100, 32, 100, 111, 32, 100, 111, 110, 101, 32, 101, 108, 115, 101, 32, 105, 102, 32, 108, 111, 99, 107, 32, 108, 111, 99, 107, 102, 111, 114, 32, 108, 111, 111, 112, 32, 109, 117, 116, 101, 120, 32, 111, 110, 99, 101, 32, 112, 117, 116, 32, 113, 117, 101, 117, 101, 32, 114, 101, 97, 100, 32, 114, 101, 108, 101, 97, 115, 101, 32, 114, 108, 111, 99, 107, 32, 114, 117, 110, 108, 111, 99, 107, 32, 114, 119, 108, 111, 99, 107, 32, 115, 101, 109, 32, 115, 101, 116, 32, 115, 105, 103, 110, 97, 108, 32, 116, 97, 107, 101, 32, 116, 104, 114, 101, 97, 100, 32, 116, 114, 121, 97, 99, 113, 117, 105, 114, 101, 32, 116, 114, 121, 108, 111, 99, 107, 32, 117, 110, 108, 111, 99, 107, 32, 118, 97, 114, 32, 119, 97, 105, 116, 32, 119, 97, 105, 116, 102, 111, 114, 32, 119, 97, 105, 116, 111, 110, 32, 119, 108, 111, 99, 107, 32, 119, 114, 105, 116, 101, 32, 119, 117, 110, 108, 111, 99, 107, 32]
def isKey (s : List UInt8) : Bool := Lib.contains keys (32 :: (s ++ [32]))
/-- The token that begins at a place, or the line of what is none. -/
def tokAt (l : List UInt8) (a : Nat) : Except Nat Tok :=
  match l.drop a with
  | [] => .ok ⟨5, [], 0, lineOf l a, a, a⟩
  | c :: r =>
    if cls c = 3 then match num 0 ((c :: r).take (tok (c :: r))) with
      | some v => .ok ⟨1, [], v, lineOf l a, a, a + tok (c :: r)⟩
      | none => .error (lineOf l a)
    else if cls c = 4 then .ok ⟨if isKey ((c :: r).take (tok (c :: r))) then 3 else 2, (c :: r).take (tok (c :: r)), 0, lineOf l a, a, a + tok (c :: r)⟩
    else if cls c = 5 then if (c :: r).take (tok (c :: r)) = [61] then .error (lineOf l a) else .ok ⟨4, (c :: r).take (tok (c :: r)), 0, lineOf l a, a, a + tok (c :: r)⟩
    else .error (lineOf l a)
def next (l : List UInt8) (n : Nat) : Except Nat Tok := tokAt l (n + skip false (l.drop n))
theorem run_digits (r : List UInt8) : ∀ c ∈ r.take (run 3 r), cls c = 3 := by
  induction r with
  | nil => simp [run]
  | cons d r ih =>
    simp only [run]
    by_cases h : cls d = 3
    · rw [if_pos (.inl h), Nat.add_comm, List.take_succ_cons]
      intro c hc
      rcases List.mem_cons.1 hc with rfl | hc
      · exact h
      · exact ih c hc
    · rw [if_neg (by omega)]; simp
theorem tok_digits (c : UInt8) (r : List UInt8) (h : cls c = 3) : ∀ d ∈ (c :: r).take (tok (c :: r)), cls d = 3 := by
  intro d hd
  simp only [tok, h, Nat.add_comm 1, List.take_succ_cons] at hd
  rw [if_neg (by omega)] at hd
  rw [List.take_succ_cons] at hd
  rcases List.mem_cons.1 hd with rfl | hd
  · exact h
  · exact run_digits r d hd
theorem cls_digit (c : UInt8) (h : cls c = 3) : 48 ≤ c.toNat ∧ c.toNat ≤ 57 := by
  unfold cls at h
  split at h
  · omega
  · split at h
    · omega
    · split at h
      · rename_i h3
        simpa [UInt8.le_iff_toNat_le] using h3
      · split at h <;> (try split at h) <;> omega
theorem tokAt_sign {l : List UInt8} {a : Nat} {c : UInt8} {r : List UInt8} {k : Nat} {x : List UInt8} (hd : l.drop a = c :: r) (hk : tok (c :: r) = k) (hx : (c :: r).take k = x) (h : cls c = 5) :
    tokAt l a = if x = [61] then .error (lineOf l a) else .ok ⟨4, x, 0, lineOf l a, a, a + k⟩ := by
  unfold tokAt; simp [hd, hk, hx, h]
theorem tokAt_name {l : List UInt8} {a : Nat} {c : UInt8} {r : List UInt8} {k : Nat} {x : List UInt8} (hd : l.drop a = c :: r) (hk : tok (c :: r) = k) (hx : (c :: r).take k = x) (h : cls c = 4) :
    tokAt l a = .ok ⟨if isKey x then 3 else 2, x, 0, lineOf l a, a, a + k⟩ := by
  unfold tokAt; simp [hd, hk, hx, h]
theorem tokAt_int {l : List UInt8} {a : Nat} {c : UInt8} {r : List UInt8} {k : Nat} {x : List UInt8} (hd : l.drop a = c :: r) (hk : tok (c :: r) = k) (hx : (c :: r).take k = x) (h : cls c = 3) :
    tokAt l a = match num 0 x with | some v => .ok ⟨1, [], v, lineOf l a, a, a + k⟩ | none => .error (lineOf l a) := by
  unfold tokAt; simp [hd, hk, hx, h]
theorem tokAt_odd {l : List UInt8} {a : Nat} {c : UInt8} {r : List UInt8} (hd : l.drop a = c :: r) (h3 : cls c ≠ 3) (h4 : cls c ≠ 4) (h5 : cls c ≠ 5) :
    tokAt l a = .error (lineOf l a) := by
  unfold tokAt; simp [hd, h3, h4, h5]
theorem tokAt_end {l : List UInt8} {a : Nat} (hd : l.drop a = []) : tokAt l a = .ok ⟨5, [], 0, lineOf l a, a, a⟩ := by
  unfold tokAt; simp [hd]
theorem name_sign {c : UInt8} (h : cls c = 4) : c ≠ 61 := by
  intro e; subst e; revert h; decide
end Go.Proofs.YtedcdlofjemchaaDoor.Wd
