/- Plain laws of names and keys. -/
import Derived.Test.YtedcdlofjemchaaDoorPlainDigits
import Derived.Lib.Fields
import Derived.Lib.Case
namespace Go.Proofs.YtedcdlofjemchaaDoor.Wd

def al : List UInt8 := [97, 98, 99, 100, 101, 102, 103, 104, 105, 106, 107, 108, 109, 110, 111, 112, 113, 114, 115, 116, 117, 118, 119, 120, 121, 122, 65, 66, 67, 68, 69, 70, 71, 72, 73, 74, 75, 76, 77, 78, 79, 80, 81, 82, 83, 84, 85, 86, 87, 88, 89, 90, 95, 48, 49, 50, 51, 52, 53, 54, 55, 56, 57]
def ch (b : UInt8) : UInt8 := al.getD (b.toNat % 63) 0
theorem al_char : ∀ i < 63, cls (al.getD i 0) = 3 ∨ cls (al.getD i 0) = 4 := by decide +kernel
theorem ch_char (b : UInt8) : cls (ch b) = 3 ∨ cls (ch b) = 4 := al_char _ (Nat.mod_lt _ (by omega))
def Chars (l : List UInt8) : Prop := ∀ c ∈ l, cls c = 3 ∨ cls c = 4
theorem ch_chars (l : List UInt8) : Chars (l.map ch) := by
  intro c hc
  obtain ⟨b, _, rfl⟩ := List.mem_map.1 hc
  exact ch_char b
theorem run_chars (l : List UInt8) (h : Chars l) : run 4 l = l.length := by
  induction l with
  | nil => rfl
  | cons c l ih =>
    have hc : cls c = 3 ∨ (cls c = 4 ∧ 4 = 4) := by
      rcases h c (List.mem_cons_self ..) with e | e
      · exact .inl e
      · exact .inr ⟨e, rfl⟩
    rw [run_yes _ _ _ hc, ih (fun d hd => h d (List.mem_cons_of_mem _ hd)), List.length_cons]; omega
theorem line_chars (l : List UInt8) (h : Chars l) (d : Nat) : lineOf l d = 1 := by
  unfold lineOf
  rw [List.count_eq_zero_of_not_mem]
  intro hm
  rcases h 10 (List.mem_of_mem_take hm) with e | e <;> revert e <;> decide
theorem next_name (l : List UInt8) (h : Chars l) (d : Nat) (c : UInt8) (r : List UInt8) (hd : l.drop d = c :: r) (hc : cls c = 4) :
    next l d = .ok ⟨if isKey (c :: r) then 3 else 2, c :: r, 0, 1, d, l.length⟩ := by
  have hr : Chars r := fun x hx => h x (List.mem_of_mem_drop (i := d) (by rw [hd]; exact List.mem_cons_of_mem _ hx))
  have hk : tok (c :: r) = (c :: r).length := by
    simp only [tok, hc]
    rw [if_neg (by omega), run_chars r hr, List.length_cons]; omega
  have hs : skip false (l.drop d) = 0 := by rw [hd]; simp [skip, hc]
  unfold next
  rw [hs, Nat.add_zero, tokAt_name hd hk (List.take_length) hc, line_chars l h]
  have : d + (c :: r).length = l.length := by
    have h1 : (l.drop d).length = (c :: r).length := by rw [hd]
    simp at h1 ⊢; omega
  rw [this]
theorem run_ge (l : List UInt8) (d : Nat) (hd : ∀ c ∈ l.take d, cls c = 3) (hl : d ≤ l.length) : d ≤ run 3 l := by
  induction l generalizing d with
  | nil => simp at hl; omega
  | cons c l ih =>
    rcases d with _ | d
    · omega
    · have hc := hd c (by simp)
      rw [run_yes _ _ _ (.inl hc)]
      have := ih d (fun x hx => hd x (by simp [hx])) (by simpa using hl)
      omega
theorem next_int (l : List UInt8) (d : Nat) (h0 : 0 < d) (hd : ∀ c ∈ l.take d, cls c = 3) (hl : d ≤ l.length) :
    (∃ line, next l 0 = .error line) ∨ ∃ v line fin, next l 0 = .ok ⟨1, [], v, line, 0, fin⟩ ∧ d ≤ fin := by
  cases l with
  | nil => simp at hl; omega
  | cons c l =>
    obtain ⟨d, rfl⟩ : ∃ e, d = e + 1 := ⟨d - 1, by omega⟩
    have hc := hd c (by simp)
    have hs : skip false ((c :: l).drop 0) = 0 := by simp [skip, hc]
    have hk : tok (c :: l) = 1 + run 3 l := by simp only [tok, hc]; rw [if_neg (by omega)]
    have hg := run_ge l d (fun x hx => hd x (by simp [hx])) (by simpa using hl)
    unfold next
    rw [hs, tokAt_int (l := c :: l) (a := 0 + 0) (c := c) (r := l) rfl rfl rfl hc, hk]
    rcases num 0 ((c :: l).take (1 + run 3 l)) with _ | v
    · exact .inl ⟨_, rfl⟩
    · exact .inr ⟨v, _, _, rfl, by omega⟩

/-- Is what is told just this token? -/
def just (r : Except Nat Tok) (t : Tok) : Bool := match r with
  | .ok x => x.kind == t.kind && x.s == t.s && x.n == t.n && x.line == t.line && x.pos == t.pos && x.fin == t.fin
  | .error _ => false
theorem just_eq {r : Except Nat Tok} {t : Tok} (h : just r t = true) : r = .ok t := by
  cases r with
  | error _ => simp [just] at h
  | ok x =>
    cases x; cases t
    simp only [just, Bool.and_eq_true, beq_iff_eq] at h
    obtain ⟨⟨⟨⟨⟨rfl, rfl⟩, rfl⟩, rfl⟩, rfl⟩, rfl⟩ := h
    rfl
def keyText : List UInt8 := (keys.drop 1).dropLast
def keyList : List (List UInt8) := Lib.fields keyText
def other (k : List UInt8) (j : Nat) : List UInt8 := if j = 0 then k ++ [115] else if j = 1 then k.drop 1 else Lib.toUpperA (k.take 1) ++ k.drop 1
theorem keys_many : keyList.length = 37 := by decide +kernel
theorem keys_just : keyList.all (fun k => decide (2 ≤ k.length) && decide (k.length ≤ 20) && just (next k 0) ⟨3, k, 0, 1, 0, k.length⟩ && k.all (fun c => decide (c.toNat < 128))) = true := by decide +kernel
theorem others_just : keyList.all (fun k => [0, 1, 2].all fun j => just (next (other k j) 0) ⟨if keyList.contains (other k j) then 3 else 2, other k j, 0, 1, 0, (other k j).length⟩) = true := by decide +kernel
end Go.Proofs.YtedcdlofjemchaaDoor.Wd
