/- The walks of the statements' is, not, awake (layer 8). -/
import Derived.Test.YtedcdlofjemchaaDoorWalkNext
namespace Go.Proofs.YtedcdlofjemchaaDoor
open Go.RowKit
set_option linter.unusedVariables false
set_option linter.unusedSimpArgs false

theorem next_any (s : ByteArray) (n : Int) (w : World) (h : s.size ≤ 16384) (h0 : 0 ≤ n) (hn : n ≤ s.size) (hsh : Sh w) :
    Calls Tryd.prog 9 #[.string s, .int .i64 n] w fun e w' => e = .returned (nextV (Wd.next s.data.toList n.toNat)) ∧ Below w.heap.size w w' := by
  obtain ⟨m, rfl⟩ := Int.eq_ofNat_of_zero_le h0
  exact next_in s m w h (by omega) hsh

set_option maxRecDepth 100000 in
theorem is_yes (s : ByteArray) (n : Int) (k : Int) (x : ByteArray) (v ln p q : Int) (w : World) (h : s.size ≤ 16384) (h0 : 0 ≤ n) (hn : n ≤ s.size) (hsh : Sh w)
    (he : nextV (Wd.next s.data.toList n.toNat) = .tuple #[.agg #[.int .u8 k, .string x, .int .i64 v, .int .i64 ln, .int .i64 p, .int .i64 q], .agg #[.int .i64 0, .int .i64 0]]) :
    Calls Tryd.prog 13 #[.string s, .int .i64 n, .agg #[.int .u8 k, .string x, .int .i64 v, .int .i64 ln, .int .i64 p, .int .i64 q]] w fun e w' => e = .returned (.bool true) ∧ Below w.heap.size w w' := by
  have HE := Lib.hid he
  clear he
  go_enter Tryd.func13, Tryd.ntmps13
  go_wp2_with (fail)
  refine (next_any _ _ _ h h0 hn (hsh.below (below_alloc1 _ _))).mono ?_
  rintro e w1 ⟨rfl, hb1⟩
  rw [HE.out]
  have hz1 : w.heap.size < w1.heap.size := by have := hb1.size; simp at this; omega
  obtain ⟨hc1, hf1⟩ := bcell2 (hb1.mono (B' := w.heap.size + 1) (by simp))
  go_wp2_with (fail)
  go_ret
  exact ⟨rfl, (((below_alloc1 _ _).trans (hb1.mono (by simp))).alloc (by omega) _).alloc (by simp; omega) _⟩

set_option maxRecDepth 100000 in
theorem not_yes (s : ByteArray) (n : Int) (line : Int) (w : World) (h : s.size ≤ 16384) (h0 : 0 ≤ n) (hn : n ≤ s.size) (hsh : Sh w)
    (he : nextV (Wd.next s.data.toList n.toNat) = .tuple #[.agg #[.int .u8 0, .string ⟨#[]⟩, .int .i64 0, .int .i64 0, .int .i64 0, .int .i64 0], .agg #[.int .i64 100, .int .i64 line]]) :
    Calls Tryd.prog 10 #[.string s, .int .i64 n, .int .i64 line] w fun e w' => e = .returned (.bool true) ∧ Below w.heap.size w w' := by
  have HE := Lib.hid he
  clear he
  go_enter Tryd.func10, Tryd.ntmps10
  go_wp2_with (fail)
  refine (next_any _ _ _ h h0 hn hsh).mono ?_
  rintro e w1 ⟨rfl, hb1⟩
  rw [HE.out]
  have hz1 : w.heap.size ≤ w1.heap.size := hb1.size
  go_wp2_with (fail)
  go_ret
  exact ⟨rfl, (hb1.alloc (by omega) _).alloc (by simp; omega) _⟩

set_option maxRecDepth 100000 in
theorem awake_any (w : World) (hsh : Sh w) :
    Calls Tryd.prog 7 #[] w fun e w' => e = .returned (.bool true) ∧ Below w.heap.size w w' := by
  go_enter Tryd.func7, Tryd.ntmps7
  go_wp2_with (fail)
  refine (is_yes _ _ _ _ _ _ _ _ _ (by decide +kernel) (by decide) (by decide +kernel) hsh (by kernel_rfl)).mono ?_
  rintro e w1 ⟨rfl, hb1⟩
  have hb := hb1
  go_wp2_with (fail)
  refine (is_yes _ _ _ _ _ _ _ _ _ (by decide +kernel) (by decide) (by decide +kernel) (hsh.below hb) (by kernel_rfl)).mono ?_
  rintro e w2 ⟨rfl, hb2⟩
  replace hb := hb.trans (hb2.mono hb.size)
  go_wp2_with (fail)
  refine (is_yes _ _ _ _ _ _ _ _ _ (by decide +kernel) (by decide) (by decide +kernel) (hsh.below hb) (by kernel_rfl)).mono ?_
  rintro e w3 ⟨rfl, hb3⟩
  replace hb := hb.trans (hb3.mono hb.size)
  go_wp2_with (fail)
  refine (is_yes _ _ _ _ _ _ _ _ _ (by decide +kernel) (by decide) (by decide +kernel) (hsh.below hb) (by kernel_rfl)).mono ?_
  rintro e w4 ⟨rfl, hb4⟩
  replace hb := hb.trans (hb4.mono hb.size)
  go_wp2_with (fail)
  refine (not_yes _ _ _ _ (by decide +kernel) (by decide) (by decide +kernel) (hsh.below hb) (by kernel_rfl)).mono ?_
  rintro e w5 ⟨rfl, hb5⟩
  replace hb := hb.trans (hb5.mono hb.size)
  go_wp2_with (fail)
  refine (is_yes _ _ _ _ _ _ _ _ _ (by decide +kernel) (by decide) (by decide +kernel) (hsh.below hb) (by kernel_rfl)).mono ?_
  rintro e w6 ⟨rfl, hb6⟩
  replace hb := hb.trans (hb6.mono hb.size)
  go_wp2_with (fail)
  refine (not_yes _ _ _ _ (by decide +kernel) (by decide) (by decide +kernel) (hsh.below hb) (by kernel_rfl)).mono ?_
  rintro e w7 ⟨rfl, hb7⟩
  replace hb := hb.trans (hb7.mono hb.size)
  go_wp2_with (fail)
  refine (is_yes _ _ _ _ _ _ _ _ _ (by decide +kernel) (by decide) (by decide +kernel) (hsh.below hb) (by kernel_rfl)).mono ?_
  rintro e w8 ⟨rfl, hb8⟩
  replace hb := hb.trans (hb8.mono hb.size)
  go_wp2_with (fail)
  go_ret
  exact ⟨rfl, hb⟩
end Go.Proofs.YtedcdlofjemchaaDoor
