/- The walk of the words' number. -/
import Derived.Test.YtedcdlofjemchaaDoorWalkWords
import Derived.Laws.BytesArg
import Derived.Lib.ConvBytes
namespace Go.Proofs.YtedcdlofjemchaaDoor
open Go.RowKit
set_option linter.unusedVariables false

theorem below_bytes (w : World) (e : TypeId) (s : ByteArray) : Below w.heap.size w (Lib.bytesWorld w e s) :=
  ⟨rfl, rfl, rfl, by rw [Lib.bytesWorld_size]; omega, fun k hk => Lib.bytesWorld_at_old w e s k hk⟩

/-- The number of digits. -/
def numV (o : Option Int) : Value := match o with | some n => .tuple #[.int .i64 n, .bool true] | none => .tuple #[.int .i64 0, .bool false]

set_option maxRecDepth 100000 in
theorem number_any (s : ByteArray) (w : World) (ht : s.size ≤ 16384) (hd : ∀ c ∈ s.data.toList, 48 ≤ c.toNat ∧ c.toNat ≤ 57) :
    Calls Tryd.prog 24 #[.string s] w fun e w' => e = .returned (numV (Wd.num 0 s.data.toList)) ∧ Below w.heap.size w w' := by
  have ht2 : s.size ≤ 9223372036854775807 := by omega
  have kb := fun W => Lib.run_convert_string_bytes (P := Tryd.prog) W 9 22 5 s Tryd.underlying9 Tryd.underlying22 Tryd.underlying5
  have HB := below_bytes w 5 s
  have HD := Lib.hid hd
  clear hd
  go_enter Tryd.func24, Tryd.ntmps24
  go_wp2_with (fail)
  have hcell := fun j hj => Lib.bytesWorld_cell w 5 s j hj
  generalize Lib.bytesWorld w 5 s = W at *
  have HC := Lib.hid hcell
  clear hcell kb
  go_loopg [4, 11] s.size (fun k p i wr => wr = W ∧ ∃ (m : Nat) (n : Int), k + m = s.size ∧ 0 ≤ n ∧ n ≤ 9223372036854775807 ∧ i = .int .i64 m ∧ p = .int .i64 n ∧ Hid (Wd.num 0 s.data.toList = Wd.num n (s.data.toList.drop m)))
  case atStart => exact ⟨rfl, 0, 0, rfl, by omega, by omega, rfl, rfl, rfl⟩
  case round =>
    obtain ⟨rfl, m, n, hm, hn1, hn2, rfl, rfl, H1⟩ := hrel
    by_cases hlt : m < s.size
    · have hc : wr.cell? ⟨w.heap.size, m, none⟩ = some (.int .u8 (s[m]'hlt).toNat) := by
        have := HC.out m hlt
        rwa [List.getD_eq_getElem?_getD, List.getElem?_eq_getElem (by simpa using hlt)] at this
      have hb : 48 ≤ (s[m]'hlt).toNat ∧ (s[m]'hlt).toNat ≤ 57 := HD.out _ (by simp; exact Array.getElem_mem _)
      obtain ⟨hb1, hb2⟩ := hb
      have HD2 : Hid (s.data.toList.drop m = s[m] :: s.data.toList.drop (m + 1)) := List.drop_eq_getElem_cons (l := s.data.toList) (i := m) (by simpa using hlt)
      go_wp2_with (fail)
      · have hh : (9223372036854775807 - (((s[m]'hlt).toNat : Int) - 48)) / 10 < n := by assumption
        go_ret2
        refine ⟨?_, HB⟩
        rw [H1.out, HD2.out]; simp only [Wd.num]; rw [if_pos hh]; rfl
      · have hh : n ≤ (9223372036854775807 - (((s[m]'hlt).toNat : Int) - 48)) / 10 := by assumption
        go_roundg (s.size - (m + 1))
        case measure => omega
        case rel =>
          refine ⟨rfl, m + 1, _, by omega, ?_, ?_, by go_num, rfl, ?_⟩
          · omega
          · omega
          · show _ = _
            rw [H1.out, HD2.out]; simp only [Wd.num]; rw [if_neg (by omega)]
    · obtain rfl : m = s.size := by omega
      go_wp2_with (fail)
      go_ret2
      refine ⟨?_, HB⟩
      rw [H1.out, List.drop_of_length_le (by simp)]; rfl
end Go.Proofs.YtedcdlofjemchaaDoor
