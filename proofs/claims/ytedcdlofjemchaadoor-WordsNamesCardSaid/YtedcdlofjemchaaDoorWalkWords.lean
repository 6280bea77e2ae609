/- The walks of the words' inner functions. -/
import Derived.Test.YtedcdlofjemchaaDoorProg
import Derived.Test.YtedcdlofjemchaaDoorPlainWords
import Derived.Test.YtedcdlofjemchaaDoorShelf
import Derived.WalkKit
import Derived.BigQuiet
import Derived.Deep.QuietTactic
import Derived.Deep.LoopGhost
import Derived.Lib.Hide
import Derived.WalkSpells
import Derived.WalkLawsBesides
namespace Go.Proofs.YtedcdlofjemchaaDoor
open Go.RowKit
set_option linter.unusedVariables false

/-- The world is as it was, but for draws. -/
def Drawn (w w' : World) : Prop := ∃ k, w' = w.drewN k
theorem Drawn.refl (w : World) : Drawn w w := ⟨0, rfl⟩
theorem Drawn.step {w w' : World} (h : Drawn w w') (n : Nat) : Drawn w (w'.drewN n) := by
  obtain ⟨k, rfl⟩ := h
  exact ⟨k + n, World.drewN_drewN ..⟩
theorem Drawn.drew {w w' : World} (h : Drawn w w') : Drawn w w'.drew := h.step 1
theorem Drawn.trans {w w' w2 : World} (h : Drawn w w') (h2 : Drawn w' w2) : Drawn w w2 := by
  obtain ⟨k, rfl⟩ := h2
  exact h.step k
theorem Drawn.cell {w w' : World} (h : Drawn w w') (a : Addr) : w'.cell? a = w.cell? a := by
  obtain ⟨k, rfl⟩ := h
  rfl
/-- The table of classes lies at a block. -/
def Table (w : World) (b : Nat) : Prop := ∀ c : Nat, c < 256 → w.cell? ⟨b, c, none⟩ = some (.int .u8 (Wd.cls c.toUInt8))
theorem Table.at_ {w : World} {b : Nat} (h : Table w b) (c : UInt8) : w.cell? ⟨b, c.toNat, none⟩ = some (.int .u8 (Wd.cls c)) := by
  have := h c.toNat (UInt8.toNat_lt _)
  simpa using this

theorem nat_eq {a b : Nat} (h : ((a : Int) == (b : Int)) = true) : a = b := by simp at h; omega
theorem nat_ne {a b : Nat} (h : ((a : Int) == (b : Int)) = false) : a ≠ b := by simp at h; omega
theorem ret_nat {a b : Nat} (h : a = b) : Ending.returned (.int .i64 (a : Int)) = .returned (.int .i64 (b : Int)) := by rw [h]
theorem ret_nat2 {a : Int} {b : Nat} (h : a = b) : Ending.returned (.int .i64 a) = .returned (.int .i64 (b : Int)) := by rw [h]
theorem drop_list (s : ByteArray) (m : Nat) : (s.extract m s.size).data.toList = s.data.toList.drop m := by
  rw [ByteArray.data_extract]; simp
  exact List.take_of_length_le (by simp)
set_option maxRecDepth 100000 in
theorem begins_any (b : Nat) (s : ByteArray) (n : Nat) (w : World) (ht : s.size ≤ 16384) (hn : n ≤ s.size) (hT : Table w b) :
    Calls Tryd.prog 21 #[.pointer (some ⟨b, 0, none⟩), .string s, .int .i64 n] w fun e w' => e = .returned (.int .i64 ↑(n + Wd.skip false (s.data.toList.drop n))) ∧ Drawn w w' := by
  have ht2 : s.size ≤ 9223372036854775807 := by omega
  have HT := Lib.hid hT
  clear hT
  go_enter Tryd.func21, Tryd.ntmps21
  go_wp2; go_step3; go_wp2; go_step3; go_wp2
  go_loopg [2] (s.size + 1 - n) (fun k p wr => ∃ m : Nat, m ≤ s.size ∧ k + m = s.size + 1 ∧ p = .int .i64 m ∧ Hid (n + Wd.skip false (s.data.toList.drop n) = m + Wd.skip false (s.data.toList.drop m)) ∧ Drawn w wr)
  case atStart => exact ⟨n, hn, by omega, rfl, rfl, Drawn.refl _⟩
  case round =>
    obtain ⟨m, hm, hk, rfl, H1, H2⟩ := hrel
    have HW := H2
    by_cases hlt : m < s.size
    · have hc : wr.cell? ⟨b, (s[m]).toNat, none⟩ = some (.int .u8 (Wd.cls s[m])) := (H2.cell _).trans ((HT.out).at_ s[m])
      have hb : s[m].toNat < 256 := UInt8.toNat_lt _
      have HD : Hid (s.data.toList.drop m = s[m] :: s.data.toList.drop (m + 1)) :=
        List.drop_eq_getElem_cons (l := s.data.toList) (i := m) (by simpa using hlt)
      have HX := Lib.hid (Wd.skip_line (s.data.toList.drop m))
      have hg := Lib.indexByte_ge (s.data.toList.drop m) 10
      have HE : Hid ((s.extract m s.size).data.toList = s.data.toList.drop m) := drop_list s m
      go_wp2
      go_quiet (fail)
      go_wp2_with (fail)
      · have hh : Wd.cls s[m] = 1 := nat_eq ‹_›
        go_roundg (s.size - m)
        case measure => omega
        case rel =>
          refine ⟨m + 1, by omega, by omega, by go_num, ?_, by first | exact H2 | exact H2.step _ | exact (Drawn.refl _).step _⟩
          show _ = _
          rw [H1.out, HD.out]; simp only [Wd.skip, hh, if_true]; omega
      · have hh : Wd.cls s[m] = 2 := nat_eq ‹(_ == (2 : Int)) = true›
        have HS := Lib.hid (Wd.skip_remark s[m] (s.data.toList.drop (m + 1)) hh)
        have HN : Hid (Lib.indexByte (s.data.toList.drop m) 10 ≠ 0) := by rw [HD.out]; exact Wd.index_remark _ _ hh
        clear hh
        refine (Tryd.strings_IndexByte _ _ _).mono ?_
        rintro e w' ⟨rfl, rfl⟩
        rw [HE.out, show (10 : Int).toNat.toUInt8 = 10 from rfl]
        generalize hi : Lib.indexByte (s.data.toList.drop m) 10 = i at *
        clear hi
        by_cases hneg : i < 0
        · go_wp2
          rw [Exit.noGoto_ret]
          go_ret
          refine ⟨ret_nat ?_, by first | exact H2 | exact H2.step _ | exact (Drawn.refl _).step _⟩
          have h1 := HX.out.1 hneg
          rw [H1.out, HD.out, HS.out, ← HD.out, h1]; simp; omega
        · obtain ⟨j, rfl⟩ := Int.eq_ofNat_of_zero_le (show 0 ≤ i by omega)
          have HJ := Lib.hid (HX.out.2 (by omega))
          have hj : j + m < s.size := by have := HJ.out.1; simp at this; omega
          go_wp2
          go_roundg (s.size + 1 - (m + j))
          case measure =>
            have : (j : Int) ≠ 0 := HN.out
            omega
          case rel =>
            refine ⟨m + j, by omega, by omega, by go_num, ?_, by first | exact H2 | exact H2.step _ | exact (Drawn.refl _).step _⟩
            show _ = _
            have h2 := HJ.out.2
            rw [H1.out, HD.out, HS.out, ← HD.out, h2]; simp; omega
      · have h1 : Wd.cls s[m] ≠ 1 := nat_ne ‹(_ == (1 : Int)) = false›
        have h2 : Wd.cls s[m] ≠ 2 := nat_ne ‹(_ == (2 : Int)) = false›
        rw [Exit.noGoto_ret]
        go_ret
        refine ⟨ret_nat ?_, by first | exact H2 | exact H2.step _ | exact (Drawn.refl _).step _⟩
        rw [H1.out, HD.out]; simp [Wd.skip, h1, h2]
    · obtain rfl : m = s.size := by omega
      go_wp2
      rw [Exit.noGoto_ret]
      go_ret
      refine ⟨ret_nat ?_, H2⟩
      rw [H1.out]
      rw [List.drop_of_length_le (by simp)]
      simp [Wd.skip]
set_option maxRecDepth 100000 in
theorem ends_any (b : Nat) (s : ByteArray) (n : Nat) (w : World) (ht : s.size ≤ 16384) (hn : n < s.size) (hT : Table w b) :
    Calls Tryd.prog 23 #[.pointer (some ⟨b, 0, none⟩), .string s, .int .i64 n] w fun e w' => e = .returned (.int .i64 ↑(n + Wd.tok (s.data.toList.drop n))) ∧ Drawn w w' := by
  have ht2 : s.size ≤ 9223372036854775807 := by omega
  have hc : w.cell? ⟨b, (s[n]).toNat, none⟩ = some (.int .u8 (Wd.cls s[n])) := hT.at_ s[n]
  have HT := Lib.hid hT
  clear hT
  have hb : s[n].toNat < 256 := UInt8.toNat_lt _
  have HD : Hid (s.data.toList.drop n = s[n] :: s.data.toList.drop (n + 1)) :=
    List.drop_eq_getElem_cons (l := s.data.toList) (i := n) (by simpa using hn)
  by_cases h5 : Wd.cls s[n] = 5
  · have h5' : ((Wd.cls s[n] : Int) == 5) = true := by simp [h5]
    have H5 := Lib.hid h5
    clear h5
    obtain ⟨j, hj⟩ : ∃ j : Nat, j = min (n + 2) s.size := ⟨_, rfl⟩
    have hj1 : n < j ∧ j ≤ s.size := by omega
    have hmin : min ((n : Int) + 2) (s.size : Int) = (j : Int) := by omega
    have HJ : Hid ((s.extract n j).toList = (s.data.toList.drop n).take 2) := by
      show _ = _
      rw [Lib.toList_data, ByteArray.data_extract]
      simp only [Array.toList_extract, List.extract_eq_take_drop]
      rcases Nat.le_total (n + 2) s.size with h | h
      · rw [show j - n = 2 by omega]
      · rw [List.take_of_length_le (by simp; omega), List.take_of_length_le (by simp; omega)]
    have HM := Lib.hid hmin
    clear hj
    obtain ⟨hj1, hj2⟩ := hj1
    have hj3 : n ≤ j := by omega
    · go_enter Tryd.func23, Tryd.ntmps23
      go_wp2
      go_quiet (fail)
      go_wp2_with (fail)
      · go_ret
        have h1 : (s.extract n j).toList = [45, 62] := by assumption
        refine ⟨ret_nat2 ?_, by first | exact H2 | exact H2.step _ | exact (Drawn.refl _).step _⟩
        rw [HJ.out, HD.out] at h1
        rw [HD.out]; simp only [Wd.tok, H5.out, h1, if_true, true_or]; omega
      · go_ret
        have h1 : ((s.extract n j).toList == [45, 62]) = true ∨ ((s.extract n j).toList == [61, 61]) = true := by assumption
        refine ⟨ret_nat2 ?_, by first | exact H2 | exact H2.step _ | exact (Drawn.refl _).step _⟩
        simp only [beq_iff_eq, HJ.out, HD.out] at h1
        rw [HD.out]; simp only [Wd.tok, H5.out, h1, if_true]; omega
      · go_ret
        have h1 : ((s.extract n j).toList == [45, 62]) = false ∧ ((s.extract n j).toList == [61, 61]) = false := by assumption
        refine ⟨ret_nat2 ?_, by first | exact H2 | exact H2.step _ | exact (Drawn.refl _).step _⟩
        simp only [beq_eq_false_iff_ne, ne_eq, HJ.out, HD.out] at h1
        rw [HD.out]; simp only [Wd.tok, H5.out, h1.1, h1.2, or_self, if_true, if_false]; omega
  · have h5' : ((Wd.cls s[n] : Int) == 5) = false := by simp; omega
    have H5 := Lib.hid h5
    clear h5
    go_enter Tryd.func23, Tryd.ntmps23
    go_wp2
    go_quiet (fail)
    go_wp2_with (fail)
    go_loopg [8] (s.size + 1) (fun k p wr => ∃ m : Nat, n < m ∧ m ≤ s.size ∧ k + m = s.size + n + 2 ∧ p = .int .i64 m ∧ Hid (n + Wd.tok (s.data.toList.drop n) = m + Wd.run (Wd.cls s[n]) (s.data.toList.drop m)) ∧ Drawn w wr)
    case atStart => exact ⟨n + 1, by omega, by omega, by omega, by go_num, by show _ = _; rw [HD.out]; simp only [Wd.tok, H5.out, if_false]; omega, by first | exact H2 | exact H2.step _ | exact (Drawn.refl _).step _⟩
    case round =>
      obtain ⟨m, hm0, hm, hk, rfl, H1, H2⟩ := hrel
      by_cases hlt : m < s.size
      · have hc2 : wr.cell? ⟨b, (s[m]).toNat, none⟩ = some (.int .u8 (Wd.cls s[m])) := (H2.cell _).trans ((HT.out).at_ s[m])
        have hb2 : s[m].toNat < 256 := UInt8.toNat_lt _
        have HD2 : Hid (s.data.toList.drop m = s[m] :: s.data.toList.drop (m + 1)) := List.drop_eq_getElem_cons (l := s.data.toList) (i := m) (by simpa using hlt)
        rcases h3 : ((Wd.cls s[m] : Int) == 3) with _ | _ <;> rcases h4 : ((Wd.cls s[m] : Int) == 4) with _ | _ <;> rcases hf : ((Wd.cls s[n] : Int) == 4) with _ | _
        all_goals
          go_wp2_with (fail)
          go_quiet (fail)
          go_wp2_with (fail)
          first
          | (go_roundg (s.size + n + 2 - (m + 1))
             case measure => omega
             case rel =>
               refine ⟨m + 1, by omega, by omega, by omega, by go_num, ?_, by first | exact H2 | exact H2.step _ | exact (Drawn.refl _).step _⟩
               show _ = _
               rw [H1.out, HD2.out]
               have e := Wd.run_yes (Wd.cls s[n]) s[m] (s.data.toList.drop (m + 1)) (by first | exact .inl (nat_eq h3) | exact .inr ⟨nat_eq h4, nat_eq hf⟩)
               rw [e]; omega)
          | (go_ret
             refine ⟨ret_nat ?_, by first | exact H2 | exact H2.step _ | exact (Drawn.refl _).step _⟩
             rw [H1.out, HD2.out]
             have e := Wd.run_no (Wd.cls s[n]) s[m] (s.data.toList.drop (m + 1)) (nat_ne h3) (by first | exact .inl (nat_ne h4) | exact .inr (nat_ne hf))
             rw [e]; rfl)
      · obtain rfl : m = s.size := by omega
        go_wp2_with (fail)
        go_quiet (fail)
        go_wp2_with (fail)
        go_ret
        refine ⟨ret_nat ?_, by first | exact H2 | exact H2.step _ | exact (Drawn.refl _).step _⟩
        rw [H1.out, List.drop_of_length_le (by simp)]; rfl
end Go.Proofs.YtedcdlofjemchaaDoor
