/- The walk of the law WordsDigits. -/
import Derived.Test.YtedcdlofjemchaaDoorWalkIs
import Derived.Test.YtedcdlofjemchaaDoorPlainDigits
import Derived.Test.YtedcdlofjemchaaDoorBuilder
namespace Go.Proofs.YtedcdlofjemchaaDoor
open Go.RowKit
set_option linter.unusedVariables false
set_option linter.unusedSimpArgs false

/-- A digit out of any byte. -/
def dig (b : UInt8) : UInt8 := 48 + b % 10
theorem dig_nat (b : UInt8) : (dig b).toNat = 48 + b.toNat % 10 := by
  have : ∀ n : Fin 256, (dig (UInt8.ofNat n.1)).toNat = 48 + n.1 % 10 := by decide +kernel
  have := this ⟨b.toNat, UInt8.toNat_lt _⟩
  simpa using this
theorem dig_digs (l : List UInt8) : Wd.Digs (l.map dig) := by
  intro c hc
  obtain ⟨b, _, rfl⟩ := List.mem_map.1 hc
  rw [dig_nat]; omega

theorem sz_beh (x b : ByteArray) (hx : x.size ≤ 60) (hb : b.size ≤ 3) : (x ++ b).size ≤ 16384 := by rw [ByteArray.size_append]; omega
theorem builder_new (w : World) : Lib.IsBuilder 25 5 w.heap.size w.heap.size (Lib.byteCells []) (w.alloc (.cells #[.pointer none, .slice none 0 0] 25)) :=
  .inl ⟨Nat.le_refl _, .slice none 0 0, heap_alloc_new _ _, ⟨rfl, .inl ⟨rfl, rfl⟩⟩, by simp [Value.ownBlock]⟩

set_option maxRecDepth 100000 in
theorem digits_empty (A : Option Addr) (cap : Nat) (name : Bool) (w : World) (hsh : Sh w) :
    Calls Tryd.prog 3 #[.slice A 0 cap, .bool name] w fun e w' => e = .returned (.bool true) ∧ Below w.heap.size w w' := by
  go_enter Tryd.func3, Tryd.ntmps3
  go_wp2_with (fail)
  have HB := Lib.hid (builder_new w)
  have hbw := below_alloc1 w (.cells #[.pointer none, .slice none 0 0] 25)
  generalize w.alloc (.cells #[.pointer none, .slice none 0 0] 25) = W at *
  go_loopg [6] 0 (fun k p wr => wr = W ∧ p = .int .i64 0)
  case atStart => exact ⟨rfl, rfl⟩
  case round =>
    obtain ⟨rfl, rfl⟩ := hrel
    go_wp2_with (fail)
    refine (Tryd.Builder_String_empty w.heap.size w.heap.size _ HB.out hbw.size).mono ?_
    rintro e w1 ⟨rfl, hb1⟩
    have hb := hbw.trans hb1
    go_wp2_with (fail)
    refine (awake_any _ (hsh.below hb)).mono ?_
    rintro e w2 ⟨rfl, hb2⟩
    go_wp2_with (fail)
    go_ret
    exact ⟨rfl, hb.trans (hb2.mono hb.size)⟩

set_option maxHeartbeats 8000000 in
set_option maxRecDepth 100000 in
theorem digits_some (b off n cap : Nat) (bs : List UInt8) (name : Bool) (w : World) (hsh : Sh w) (hn : bs.length = n) (h0 : 0 < n) (hm : n ≤ 9223372036854775807) (hb : b < w.heap.size)
    (hc : ∀ i (h : i < bs.length), w.cell? ⟨b, off + i, none⟩ = some (.int .u8 bs[i].toNat)) :
    Calls Tryd.prog 3 #[.slice (some ⟨b, off, none⟩) n cap, .bool name] w fun e w' => e = .returned (.bool true) ∧ Below w.heap.size w w' := by
  have HC := Lib.hid hc
  have HN := Lib.hid hn
  clear hc hn
  go_enter Tryd.func3, Tryd.ntmps3
  go_wp2_with (fail)
  have HB := Lib.hid (builder_new w)
  have hbw := below_alloc1 w (.cells #[.pointer none, .slice none 0 0] 25)
  generalize w.alloc (.cells #[.pointer none, .slice none 0 0] 25) = W at *
  go_loopg [6] 60 (fun k p wr => ∃ m : Nat, k + m = 60 ∧ m ≤ n ∧ p = .int .i64 m ∧ Lib.IsBuilder 25 5 w.heap.size w.heap.size (Lib.byteCells ((bs.take m).map dig)) wr ∧ Below w.heap.size w wr)
  case atStart => exact ⟨0, rfl, by omega, rfl, HB.out, hbw⟩
  case round =>
    clear HB hbw
    obtain ⟨m, hk, hmn, rfl, hB, hbw⟩ := hrel
    have HB := Lib.hid hB
    clear hB
    by_cases hlt : m < n ∧ m < 60
    · obtain ⟨hlt, hlt2⟩ := hlt
      have hlb : m < bs.length := by have := HN.out; omega
      have hcm : wr.cell? ⟨b, off + m, none⟩ = some (.int .u8 bs[m].toNat) := (hbw.cell (p := ⟨b, off + m, none⟩) hb).trans (HC.out m hlb)
      have hby : bs[m].toNat < 256 := UInt8.toNat_lt _
      go_wp2_with (fail)
      refine (writeByte_any w.heap.size w.heap.size _ _ _ HB.out (by simp [Lib.byteCells]; omega) hbw.size).mono ?_
      rintro e w1 ⟨rfl, hB1, hb1⟩
      have HB1 : Hid (Lib.IsBuilder 25 5 w.heap.size w.heap.size (Lib.byteCells ((bs.take (m + 1)).map dig)) w1) := by
        have e : Lib.byteCells ((bs.take (m + 1)).map dig) = Lib.byteCells ((bs.take m).map dig) ++ [.int .u8 (48 + bs[m].toNat % 10)] := by
          rw [List.take_succ_eq_append_getElem hlb, List.map_append, List.map_cons, List.map_nil, Lib.byteCells, Lib.byteCells, List.map_append, List.map_cons, List.map_nil, dig_nat]
          simp
        show Lib.IsBuilder _ _ _ _ _ _
        rw [e]; exact .inr hB1
      clear hB1
      go_wp2_with (fail)
      go_roundg (60 - (m + 1))
      case measure => omega
      case rel => exact ⟨m + 1, by omega, by omega, by go_num, HB1.out, hbw.trans hb1⟩
    · obtain ⟨t, ht⟩ : ∃ t, t = (bs.take m).map dig := ⟨_, rfl⟩
      rw [← ht] at HB
      have hdt : Wd.Digs t := by rw [ht]; exact dig_digs _
      have htl : t.length = m := by have := HN.out; rw [ht]; simp; omega
      have hm0 : 0 < m := by omega
      have hm6 : m ≤ 60 := by omega
      have ht0 : t ≠ [] := by intro e; rw [e] at htl; simp at htl; omega
      have HT := Lib.hid ht0
      have HTL := Lib.hid htl
      clear ht ht0 htl
      have hnm : (m < n ∧ ¬ m < 60) ∨ ¬ m < n := by omega
      clear hlt
      rcases hnm with ⟨hl1, hl2⟩ | hl1
      · go_wp2_with (fail)
        refine (Tryd.Builder_String w.heap.size w.heap.size t _ HB.out HT.out).mono ?_
        rintro e w1 ⟨rfl, hb1⟩
        have hbX := hbw.trans hb1
        obtain ⟨x, hx⟩ : ∃ x : ByteArray, x = ⟨t.toArray⟩ := ⟨_, rfl⟩
        rw [← hx]
        have HX : Hid (x.data.toList = t) := by show _ = _; rw [hx]
        have hxs : x.size = m := by rw [hx]; exact HTL.out
        obtain ⟨k, rfl⟩ : ∃ k, m = k + 1 := ⟨m - 1, by omega⟩
        obtain ⟨u, z, hu⟩ : ∃ u z, t = u ++ [z] := ⟨t.dropLast, t.getLast HT.out, (List.dropLast_concat_getLast HT.out).symm⟩
        have hul : u.length = k := by have := HTL.out; rw [hu] at this; simpa using this
        have hxe : x.toList.isEmpty = false := by rw [Lib.toList_data, HX.out]; simpa using HT.out
        obtain ⟨x1, hx1⟩ : ∃ x1, x1 = x.extract 0 k := ⟨_, rfl⟩
        obtain ⟨x2, hx2⟩ : ∃ x2, x2 = x.extract k (k + 1) := ⟨_, rfl⟩
        have HX1 : Hid (x1.data.toList = u) := by
          show _ = _
          rw [hx1, ByteArray.data_extract, Array.toList_extract, List.extract_eq_take_drop, HX.out, hu, ← hul]; simp
        have HX2 : Hid (x2.data.toList = [z]) := by
          show _ = _
          rw [hx2, ByteArray.data_extract, Array.toList_extract, List.extract_eq_take_drop, HX.out, hu, ← hul]; simp
        have hsl1 : ∀ W, (Instr.slice 9 (.string x) none (some (.int .i64 (k : Int))) none).run Tryd.prog W = .ok (.string x1) W := by
          intro W
          rw [run_slice_string_to_if W 9 x .i64 k Tryd.underlying9, if_pos (by omega), hx1]; simp
        have hsl2 : ∀ W, (Instr.slice 9 (.string x) (some (.int .i64 (k : Int))) none none).run Tryd.prog W = .ok (.string x2) W := by
          intro W
          rw [run_slice_string_from_if W 9 x .i64 k Tryd.underlying9, if_pos (by omega), hxs, hx2]; simp
        obtain ⟨y1, hy1⟩ : ∃ y1 : ByteArray, y1 = ⟨(Lib.trimLeftB u 48).toArray⟩ := ⟨_, rfl⟩
        have HTR : ∀ W, Calls Tryd.prog 8 #[.string x1, .string ⟨#[48]⟩] W fun e w' => e = .returned (.string y1) ∧ w' = W := by
          intro W
          have h := Tryd.strings_TrimLeft_one x1 48 (by decide) W
          rw [HX1.out, ← hy1] at h
          exact h
        obtain ⟨y, hy⟩ : ∃ y : ByteArray, y = y1 ++ x2 := ⟨_, rfl⟩
        have hy1s : y1.size ≤ k := by
          rw [hy1]
          have h1 : (Lib.trimLeftB u 48).length ≤ u.length := (List.dropWhile_sublist _).length_le
          show (Lib.trimLeftB u 48).toArray.size ≤ k
          simp; omega
        have hx2s : x2.size = 1 := by
          have h1 : x2.data.toList.length = 1 := by rw [HX2.out]; rfl
          simpa using h1
        have hadd : ∀ W, (Op.stringOp .add y1 x2).run Tryd.prog W = .ok (.string y) W := by
          intro W; rw [hy]; exact run_string_add_sum W _ _ (by omega)
        have HY : Hid (y.data.toList = Wd.bare u z) := by
          show _ = _
          rw [hy, ByteArray.data_append, Array.toList_append, HX2.out, hy1]; rfl
        have hw : IntKind.i64.wrap ((x.size : Int) - 1) = k := by rw [hxs, IntWalk.i64_in _ (by omega)]; omega
        have HU := Lib.hid hu
        have HXS := Lib.hid hxs
        have HTR2 := Lib.hid HTR
        clear hx hu hul hxs HTR hx1 hx2 hy1 hy hx2s
        go_wp2_with (fail)
        go_quiet ((go_at_call 8; exact Calls.quiet_of_same (HTR2.out _)))
        clear hadd hsl1 hsl2
        have hbN : Below w.heap.size w (w1.drewN nq) := hbX.trans ((Drawn.refl w1).step nq |>.below _)
        generalize w1.drewN nq = w2 at *
        have hx60 : x.size ≤ 60 := by have := HXS.out; omega
        have hy60 : y.size ≤ 60 := by
          have h1 : y.data.toList.length = y.size := by simp
          have h2 : (Wd.bare u z).length ≤ k + 1 := by
            have h3 : (u.dropWhile (· == 48)).length ≤ u.length := (List.dropWhile_sublist _).length_le
            have h4 := HTL.out
            rw [HU.out] at h4
            unfold Wd.bare
            simp at h4 ⊢; omega
          rw [HY.out] at h1; omega
        have HF : ∀ b : List UInt8, (b = [] ∨ ∃ r, b = 32 :: r) → Hid (Wd.next (t ++ b) 0 = if Wd.val t ≤ 9223372036854775807 then .ok ⟨1, [], Wd.val t, 1, 0, t.length⟩ else .error 1) := fun b hb => Wd.next_digits t b hdt HT.out hb
        have HF2 := Lib.hid HF
        clear HF
        have hyl : y.toList = Wd.bare u z := by rw [Lib.toList_data, HY.out]
        have hys : y.size = (Wd.bare u z).length := by rw [← HY.out]; simp
        have hdu : Wd.Digs (u ++ [z]) := by rw [← HU.out]; exact hdt
        rcases h19 : decide ((y.size : Int) < 19) with _ | _
        · rcases h19b : ((y.size : Int) == 19) with _ | _
          · have hno : 9223372036854775807 < Wd.val t := by
              rw [HU.out]
              exact Wd.fits_no u z hdu (by simp at h19; omega) (.inl (by simp at h19b; omega))
            have HV := Lib.hid hno
            clear hno hyl hys
            rcases hname : name with _ | _
            · skip
              have hsz : (x ++ (⟨#[]⟩ : ByteArray)).size ≤ 16384 := sz_beh x _ hx60 (by decide)
              have HD : Hid ((x ++ (⟨#[]⟩ : ByteArray)).data.toList = t ++ []) := by show _ = _; rw [ByteArray.data_append, Array.toList_append, HX.out]
              have HF3 := HF2.out [] (by first | exact .inl rfl | exact .inr ⟨_, rfl⟩)
              have HN : Hid (nextV (Wd.next (x ++ (⟨#[]⟩ : ByteArray)).data.toList (0 : Int).toNat) = .tuple #[.agg #[.int .u8 0, .string ⟨#[]⟩, .int .i64 0, .int .i64 0, .int .i64 0, .int .i64 0], .agg #[.int .i64 100, .int .i64 1]]) := by
                show _ = _
                rw [HD.out, show (0 : Int).toNat = 0 from rfl, HF3.out, if_neg (by have := HV.out; omega)]; rfl
              have hxx : ¬ (9223372036854775807 < x.size + 3) := by omega
              have hxy : ¬ (9223372036854775807 < x.size) := by omega
              go_wp2_with (fail)
              refine (next_any _ _ _ hsz (by omega) (Int.natCast_nonneg _) (hsh.below hbN)).mono ?_
              rintro e w3 ⟨rfl, hb3⟩
              have hbM := hbN.trans (hb3.mono hbN.size)
              rw [HN.out]
              go_wp2_with (fail)
              have hbP : Below w.heap.size w ((w3.alloc (.cells #[.int .u8 0, .string ⟨#[]⟩, .int .i64 0, .int .i64 0, .int .i64 0, .int .i64 0] 34)).alloc (.cells #[.int .i64 100, .int .i64 1] 37)) := (hbM.alloc hbM.size _).alloc (by have := hbM.size; simp; omega) _
              refine (not_yes _ _ _ _ hsz (by omega) (Int.natCast_nonneg _) (hsh.below hbP) HN.out).mono ?_
              rintro e w4 ⟨rfl, hb4⟩
              have hbQ := hbP.trans (hb4.mono hbP.size)
              go_wp2_with (fail)
              refine (awake_any _ (hsh.below hbQ)).mono ?_
              rintro e w5 ⟨rfl, hb5⟩
              go_wp2_with (fail)
              go_ret
              exact ⟨rfl, hbQ.trans (hb5.mono hbQ.size)⟩
            · skip
              have hsz : (x ++ (⟨#[32, 120, 49]⟩ : ByteArray)).size ≤ 16384 := sz_beh x _ hx60 (by decide)
              have HD : Hid ((x ++ (⟨#[32, 120, 49]⟩ : ByteArray)).data.toList = t ++ [32, 120, 49]) := by show _ = _; rw [ByteArray.data_append, Array.toList_append, HX.out]
              have HF3 := HF2.out [32, 120, 49] (by first | exact .inl rfl | exact .inr ⟨_, rfl⟩)
              have HN : Hid (nextV (Wd.next (x ++ (⟨#[32, 120, 49]⟩ : ByteArray)).data.toList (0 : Int).toNat) = .tuple #[.agg #[.int .u8 0, .string ⟨#[]⟩, .int .i64 0, .int .i64 0, .int .i64 0, .int .i64 0], .agg #[.int .i64 100, .int .i64 1]]) := by
                show _ = _
                rw [HD.out, show (0 : Int).toNat = 0 from rfl, HF3.out, if_neg (by have := HV.out; omega)]; rfl
              have hxx : ¬ (9223372036854775807 < x.size + 3) := by omega
              have hxy : ¬ (9223372036854775807 < x.size) := by omega
              go_wp2_with (fail)
              refine (next_any _ _ _ hsz (by omega) (Int.natCast_nonneg _) (hsh.below hbN)).mono ?_
              rintro e w3 ⟨rfl, hb3⟩
              have hbM := hbN.trans (hb3.mono hbN.size)
              rw [HN.out]
              go_wp2_with (fail)
              have hbP : Below w.heap.size w ((w3.alloc (.cells #[.int .u8 0, .string ⟨#[]⟩, .int .i64 0, .int .i64 0, .int .i64 0, .int .i64 0] 34)).alloc (.cells #[.int .i64 100, .int .i64 1] 37)) := (hbM.alloc hbM.size _).alloc (by have := hbM.size; simp; omega) _
              refine (not_yes _ _ _ _ hsz (by omega) (Int.natCast_nonneg _) (hsh.below hbP) HN.out).mono ?_
              rintro e w4 ⟨rfl, hb4⟩
              have hbQ := hbP.trans (hb4.mono hbP.size)
              go_wp2_with (fail)
              refine (awake_any _ (hsh.below hbQ)).mono ?_
              rintro e w5 ⟨rfl, hb5⟩
              go_wp2_with (fail)
              go_ret
              exact ⟨rfl, hbQ.trans (hb5.mono hbQ.size)⟩
          · rcases hor : (Op.bytesLess y.toList [57, 50, 50, 51, 51, 55, 50, 48, 51, 54, 56, 53, 52, 55, 55, 53, 56, 48, 55] || y.toList == [57, 50, 50, 51, 51, 55, 50, 48, 51, 54, 56, 53, 52, 55, 55, 53, 56, 48, 55]) with _ | _
            · have hno : 9223372036854775807 < Wd.val t := by
                rw [HU.out]
                exact Wd.fits_no u z hdu (by simp at h19; omega) (.inr (by rw [← hyl]; exact hor))
              have HV := Lib.hid hno
              clear hno hyl hys
              rcases hname : name with _ | _
              · skip
                have hsz : (x ++ (⟨#[]⟩ : ByteArray)).size ≤ 16384 := sz_beh x _ hx60 (by decide)
                have HD : Hid ((x ++ (⟨#[]⟩ : ByteArray)).data.toList = t ++ []) := by show _ = _; rw [ByteArray.data_append, Array.toList_append, HX.out]
                have HF3 := HF2.out [] (by first | exact .inl rfl | exact .inr ⟨_, rfl⟩)
                have HN : Hid (nextV (Wd.next (x ++ (⟨#[]⟩ : ByteArray)).data.toList (0 : Int).toNat) = .tuple #[.agg #[.int .u8 0, .string ⟨#[]⟩, .int .i64 0, .int .i64 0, .int .i64 0, .int .i64 0], .agg #[.int .i64 100, .int .i64 1]]) := by
                  show _ = _
                  rw [HD.out, show (0 : Int).toNat = 0 from rfl, HF3.out, if_neg (by have := HV.out; omega)]; rfl
                have hxx : ¬ (9223372036854775807 < x.size + 3) := by omega
                have hxy : ¬ (9223372036854775807 < x.size) := by omega
                go_wp2_with (fail)
                refine (next_any _ _ _ hsz (by omega) (Int.natCast_nonneg _) (hsh.below hbN)).mono ?_
                rintro e w3 ⟨rfl, hb3⟩
                have hbM := hbN.trans (hb3.mono hbN.size)
                rw [HN.out]
                go_wp2_with (fail)
                have hbP : Below w.heap.size w ((w3.alloc (.cells #[.int .u8 0, .string ⟨#[]⟩, .int .i64 0, .int .i64 0, .int .i64 0, .int .i64 0] 34)).alloc (.cells #[.int .i64 100, .int .i64 1] 37)) := (hbM.alloc hbM.size _).alloc (by have := hbM.size; simp; omega) _
                refine (not_yes _ _ _ _ hsz (by omega) (Int.natCast_nonneg _) (hsh.below hbP) HN.out).mono ?_
                rintro e w4 ⟨rfl, hb4⟩
                have hbQ := hbP.trans (hb4.mono hbP.size)
                go_wp2_with (fail)
                refine (awake_any _ (hsh.below hbQ)).mono ?_
                rintro e w5 ⟨rfl, hb5⟩
                go_wp2_with (fail)
                go_ret
                exact ⟨rfl, hbQ.trans (hb5.mono hbQ.size)⟩
              · skip
                have hsz : (x ++ (⟨#[32, 120, 49]⟩ : ByteArray)).size ≤ 16384 := sz_beh x _ hx60 (by decide)
                have HD : Hid ((x ++ (⟨#[32, 120, 49]⟩ : ByteArray)).data.toList = t ++ [32, 120, 49]) := by show _ = _; rw [ByteArray.data_append, Array.toList_append, HX.out]
                have HF3 := HF2.out [32, 120, 49] (by first | exact .inl rfl | exact .inr ⟨_, rfl⟩)
                have HN : Hid (nextV (Wd.next (x ++ (⟨#[32, 120, 49]⟩ : ByteArray)).data.toList (0 : Int).toNat) = .tuple #[.agg #[.int .u8 0, .string ⟨#[]⟩, .int .i64 0, .int .i64 0, .int .i64 0, .int .i64 0], .agg #[.int .i64 100, .int .i64 1]]) := by
                  show _ = _
                  rw [HD.out, show (0 : Int).toNat = 0 from rfl, HF3.out, if_neg (by have := HV.out; omega)]; rfl
                have hxx : ¬ (9223372036854775807 < x.size + 3) := by omega
                have hxy : ¬ (9223372036854775807 < x.size) := by omega
                go_wp2_with (fail)
                refine (next_any _ _ _ hsz (by omega) (Int.natCast_nonneg _) (hsh.below hbN)).mono ?_
                rintro e w3 ⟨rfl, hb3⟩
                have hbM := hbN.trans (hb3.mono hbN.size)
                rw [HN.out]
                go_wp2_with (fail)
                have hbP : Below w.heap.size w ((w3.alloc (.cells #[.int .u8 0, .string ⟨#[]⟩, .int .i64 0, .int .i64 0, .int .i64 0, .int .i64 0] 34)).alloc (.cells #[.int .i64 100, .int .i64 1] 37)) := (hbM.alloc hbM.size _).alloc (by have := hbM.size; simp; omega) _
                refine (not_yes _ _ _ _ hsz (by omega) (Int.natCast_nonneg _) (hsh.below hbP) HN.out).mono ?_
                rintro e w4 ⟨rfl, hb4⟩
                have hbQ := hbP.trans (hb4.mono hbP.size)
                go_wp2_with (fail)
                refine (awake_any _ (hsh.below hbQ)).mono ?_
                rintro e w5 ⟨rfl, hb5⟩
                go_wp2_with (fail)
                go_ret
                exact ⟨rfl, hbQ.trans (hb5.mono hbQ.size)⟩
            · have hyes : Wd.val t ≤ 9223372036854775807 := by
                rw [HU.out]
                exact Wd.fits_yes u z hdu (.inr ⟨by simp at h19b; omega, by rw [← hyl]; exact hor⟩)
              have HV := Lib.hid hyes
              clear hyes hyl hys
              rcases hname : name with _ | _
              · skip
                have hsz : (x ++ (⟨#[]⟩ : ByteArray)).size ≤ 16384 := sz_beh x _ hx60 (by decide)
                have HD : Hid ((x ++ (⟨#[]⟩ : ByteArray)).data.toList = t ++ []) := by show _ = _; rw [ByteArray.data_append, Array.toList_append, HX.out]
                have HF3 := HF2.out [] (by first | exact .inl rfl | exact .inr ⟨_, rfl⟩)
                have HN : Hid (nextV (Wd.next (x ++ (⟨#[]⟩ : ByteArray)).data.toList (0 : Int).toNat) = .tuple #[.agg #[.int .u8 1, .string ⟨#[]⟩, .int .i64 (Wd.val t), .int .i64 1, .int .i64 0, .int .i64 (k + 1)], .agg #[.int .i64 0, .int .i64 0]]) := by
                  show _ = _
                  rw [HD.out, show (0 : Int).toNat = 0 from rfl, HF3.out, if_pos HV.out]
                  simp only [nextV, tokV, faultV, HTL.out, Int.natCast_add]; rfl
                have hxx : ¬ (9223372036854775807 < x.size + 3) := by omega
                have hxy : ¬ (9223372036854775807 < x.size) := by omega
                go_wp2_with (fail)
                refine (next_any _ _ _ hsz (by omega) (Int.natCast_nonneg _) (hsh.below hbN)).mono ?_
                rintro e w3 ⟨rfl, hb3⟩
                have hbM := hbN.trans (hb3.mono hbN.size)
                rw [HN.out]
                obtain ⟨V, hV⟩ : ∃ V, V = Wd.val t := ⟨_, rfl⟩
                rw [← hV]
                have HVV := Lib.hid hV
                have hVm : V ≤ 9223372036854775807 := by rw [hV]; exact HV.out
                clear hV
                go_wp2_with (fail)
                have hbP : Below w.heap.size w ((w3.alloc (.cells #[.int .u8 1, .string ⟨#[]⟩, .int .i64 V, .int .i64 1, .int .i64 0, .int .i64 (k + 1)] 34)).alloc (.cells #[.int .i64 0, .int .i64 0] 37)) := (hbM.alloc hbM.size _).alloc (by have := hbM.size; simp; omega) _
                have heq : ((k : Int) + 1 == (x.size : Int)) = true := by rw [HXS.out]; simp
                go_loop [13, 14] (fun p i => ∃ (m N : Nat), m ≤ y.size ∧ N ≤ 9223372036854775807 ∧ i = .int .i64 ((m : Int) - 1) ∧ p = .int .i64 N ∧ Hid (N = Wd.val ((Wd.bare u z).take m))) (fun _ i => (intOf i + 1).toNat)
                case atStart =>
                  refine ⟨y.size, V, Nat.le_refl _, hVm, rfl, rfl, ?_⟩
                  show _ = _
                  rw [HVV.out, ← HY.out, List.take_of_length_le (by simp), HY.out, Wd.bare_val, ← HU.out]
                case round =>
                  obtain ⟨m, N, hm1, hN1, rfl, rfl, H1⟩ := hrel
                  rcases m with _ | j
                  · obtain rfl : N = 0 := by rw [H1.out]; rfl
                    go_wp2_with (fail)
                    refine (awake_any _ (hsh.below hbP)).mono ?_
                    rintro e w5 ⟨rfl, hb5⟩
                    go_wp2_with (fail)
                    go_ret
                    exact ⟨rfl, hbP.trans (hb5.mono hbP.size)⟩
                  · have hj : j < y.size := by omega
                    have ej : (((j + 1 : Nat) : Int) - 1) = (j : Int) := by omega
                    rw [ej]
                    have hc1 : 48 ≤ (y[j]'hj).toNat ∧ (y[j]'hj).toNat ≤ 57 := Wd.bare_digs u z (by rw [← HU.out]; exact hdt) _ (by rw [← HY.out]; simp; exact Array.getElem_mem _)
                    obtain ⟨hc1, hc2⟩ := hc1
                    have hv := H1.out
                    have hj2 : j < (Wd.bare u z).length := by rw [← HY.out]; simpa using hj
                    have hj3 : (Wd.bare u z)[j] = y[j]'hj := by simp only [← HY.out]; simp; rfl
                    rw [List.take_succ_eq_append_getElem hj2, Wd.val_snoc, hj3] at hv
                    have HVN : Hid (N = Wd.val ((Wd.bare u z).take j) * 10 + ((y[j]'hj).toNat - 48)) := hv
                    clear hv hj3
                    go_wp2_with (fail)
                    · exfalso
                      have hx : (N : Int) < 0 ∨ (((y[j]'hj).toNat : Int) != 48 + (N : Int) % 10) = true := by assumption
                      have := HVN.out
                      rcases hx with hx | hx
                      · omega
                      · simp at hx; omega
                    · refine ⟨⟨j, N / 10, by omega, by omega, rfl, by simp, ?_⟩, by simp [intOf]⟩
                      show _ = _
                      have := HVN.out; omega
              · skip
                have hsz : (x ++ (⟨#[32, 120, 49]⟩ : ByteArray)).size ≤ 16384 := sz_beh x _ hx60 (by decide)
                have HD : Hid ((x ++ (⟨#[32, 120, 49]⟩ : ByteArray)).data.toList = t ++ [32, 120, 49]) := by show _ = _; rw [ByteArray.data_append, Array.toList_append, HX.out]
                have HF3 := HF2.out [32, 120, 49] (by first | exact .inl rfl | exact .inr ⟨_, rfl⟩)
                have HN : Hid (nextV (Wd.next (x ++ (⟨#[32, 120, 49]⟩ : ByteArray)).data.toList (0 : Int).toNat) = .tuple #[.agg #[.int .u8 1, .string ⟨#[]⟩, .int .i64 (Wd.val t), .int .i64 1, .int .i64 0, .int .i64 (k + 1)], .agg #[.int .i64 0, .int .i64 0]]) := by
                  show _ = _
                  rw [HD.out, show (0 : Int).toNat = 0 from rfl, HF3.out, if_pos HV.out]
                  simp only [nextV, tokV, faultV, HTL.out, Int.natCast_add]; rfl
                have hxx : ¬ (9223372036854775807 < x.size + 3) := by omega
                have hxy : ¬ (9223372036854775807 < x.size) := by omega
                go_wp2_with (fail)
                refine (next_any _ _ _ hsz (by omega) (Int.natCast_nonneg _) (hsh.below hbN)).mono ?_
                rintro e w3 ⟨rfl, hb3⟩
                have hbM := hbN.trans (hb3.mono hbN.size)
                rw [HN.out]
                obtain ⟨V, hV⟩ : ∃ V, V = Wd.val t := ⟨_, rfl⟩
                rw [← hV]
                have HVV := Lib.hid hV
                have hVm : V ≤ 9223372036854775807 := by rw [hV]; exact HV.out
                clear hV
                go_wp2_with (fail)
                have hbP : Below w.heap.size w ((w3.alloc (.cells #[.int .u8 1, .string ⟨#[]⟩, .int .i64 V, .int .i64 1, .int .i64 0, .int .i64 (k + 1)] 34)).alloc (.cells #[.int .i64 0, .int .i64 0] 37)) := (hbM.alloc hbM.size _).alloc (by have := hbM.size; simp; omega) _
                have heq : ((k : Int) + 1 == (x.size : Int)) = true := by rw [HXS.out]; simp
                go_loop [13, 14] (fun p i => ∃ (m N : Nat), m ≤ y.size ∧ N ≤ 9223372036854775807 ∧ i = .int .i64 ((m : Int) - 1) ∧ p = .int .i64 N ∧ Hid (N = Wd.val ((Wd.bare u z).take m))) (fun _ i => (intOf i + 1).toNat)
                case atStart =>
                  refine ⟨y.size, V, Nat.le_refl _, hVm, rfl, rfl, ?_⟩
                  show _ = _
                  rw [HVV.out, ← HY.out, List.take_of_length_le (by simp), HY.out, Wd.bare_val, ← HU.out]
                case round =>
                  obtain ⟨m, N, hm1, hN1, rfl, rfl, H1⟩ := hrel
                  rcases m with _ | j
                  · obtain rfl : N = 0 := by rw [H1.out]; rfl
                    go_wp2_with (fail)
                    refine (awake_any _ (hsh.below hbP)).mono ?_
                    rintro e w5 ⟨rfl, hb5⟩
                    go_wp2_with (fail)
                    go_ret
                    exact ⟨rfl, hbP.trans (hb5.mono hbP.size)⟩
                  · have hj : j < y.size := by omega
                    have ej : (((j + 1 : Nat) : Int) - 1) = (j : Int) := by omega
                    rw [ej]
                    have hc1 : 48 ≤ (y[j]'hj).toNat ∧ (y[j]'hj).toNat ≤ 57 := Wd.bare_digs u z (by rw [← HU.out]; exact hdt) _ (by rw [← HY.out]; simp; exact Array.getElem_mem _)
                    obtain ⟨hc1, hc2⟩ := hc1
                    have hv := H1.out
                    have hj2 : j < (Wd.bare u z).length := by rw [← HY.out]; simpa using hj
                    have hj3 : (Wd.bare u z)[j] = y[j]'hj := by simp only [← HY.out]; simp; rfl
                    rw [List.take_succ_eq_append_getElem hj2, Wd.val_snoc, hj3] at hv
                    have HVN : Hid (N = Wd.val ((Wd.bare u z).take j) * 10 + ((y[j]'hj).toNat - 48)) := hv
                    clear hv hj3
                    go_wp2_with (fail)
                    · exfalso
                      have hx : (N : Int) < 0 ∨ (((y[j]'hj).toNat : Int) != 48 + (N : Int) % 10) = true := by assumption
                      have := HVN.out
                      rcases hx with hx | hx
                      · omega
                      · simp at hx; omega
                    · refine ⟨⟨j, N / 10, by omega, by omega, rfl, by simp, ?_⟩, by simp [intOf]⟩
                      show _ = _
                      have := HVN.out; omega
        · have hyes : Wd.val t ≤ 9223372036854775807 := by
            rw [HU.out]
            exact Wd.fits_yes u z hdu (.inl (by simp at h19; omega))
          have HV := Lib.hid hyes
          clear hyes hyl hys
          rcases hname : name with _ | _
          · skip
            have hsz : (x ++ (⟨#[]⟩ : ByteArray)).size ≤ 16384 := sz_beh x _ hx60 (by decide)
            have HD : Hid ((x ++ (⟨#[]⟩ : ByteArray)).data.toList = t ++ []) := by show _ = _; rw [ByteArray.data_append, Array.toList_append, HX.out]
            have HF3 := HF2.out [] (by first | exact .inl rfl | exact .inr ⟨_, rfl⟩)
            have HN : Hid (nextV (Wd.next (x ++ (⟨#[]⟩ : ByteArray)).data.toList (0 : Int).toNat) = .tuple #[.agg #[.int .u8 1, .string ⟨#[]⟩, .int .i64 (Wd.val t), .int .i64 1, .int .i64 0, .int .i64 (k + 1)], .agg #[.int .i64 0, .int .i64 0]]) := by
              show _ = _
              rw [HD.out, show (0 : Int).toNat = 0 from rfl, HF3.out, if_pos HV.out]
              simp only [nextV, tokV, faultV, HTL.out, Int.natCast_add]; rfl
            have hxx : ¬ (9223372036854775807 < x.size + 3) := by omega
            have hxy : ¬ (9223372036854775807 < x.size) := by omega
            go_wp2_with (fail)
            refine (next_any _ _ _ hsz (by omega) (Int.natCast_nonneg _) (hsh.below hbN)).mono ?_
            rintro e w3 ⟨rfl, hb3⟩
            have hbM := hbN.trans (hb3.mono hbN.size)
            rw [HN.out]
            obtain ⟨V, hV⟩ : ∃ V, V = Wd.val t := ⟨_, rfl⟩
            rw [← hV]
            have HVV := Lib.hid hV
            have hVm : V ≤ 9223372036854775807 := by rw [hV]; exact HV.out
            clear hV
            go_wp2_with (fail)
            have hbP : Below w.heap.size w ((w3.alloc (.cells #[.int .u8 1, .string ⟨#[]⟩, .int .i64 V, .int .i64 1, .int .i64 0, .int .i64 (k + 1)] 34)).alloc (.cells #[.int .i64 0, .int .i64 0] 37)) := (hbM.alloc hbM.size _).alloc (by have := hbM.size; simp; omega) _
            have heq : ((k : Int) + 1 == (x.size : Int)) = true := by rw [HXS.out]; simp
            go_loop [13, 14] (fun p i => ∃ (m N : Nat), m ≤ y.size ∧ N ≤ 9223372036854775807 ∧ i = .int .i64 ((m : Int) - 1) ∧ p = .int .i64 N ∧ Hid (N = Wd.val ((Wd.bare u z).take m))) (fun _ i => (intOf i + 1).toNat)
            case atStart =>
              refine ⟨y.size, V, Nat.le_refl _, hVm, rfl, rfl, ?_⟩
              show _ = _
              rw [HVV.out, ← HY.out, List.take_of_length_le (by simp), HY.out, Wd.bare_val, ← HU.out]
            case round =>
              obtain ⟨m, N, hm1, hN1, rfl, rfl, H1⟩ := hrel
              rcases m with _ | j
              · obtain rfl : N = 0 := by rw [H1.out]; rfl
                go_wp2_with (fail)
                refine (awake_any _ (hsh.below hbP)).mono ?_
                rintro e w5 ⟨rfl, hb5⟩
                go_wp2_with (fail)
                go_ret
                exact ⟨rfl, hbP.trans (hb5.mono hbP.size)⟩
              · have hj : j < y.size := by omega
                have ej : (((j + 1 : Nat) : Int) - 1) = (j : Int) := by omega
                rw [ej]
                have hc1 : 48 ≤ (y[j]'hj).toNat ∧ (y[j]'hj).toNat ≤ 57 := Wd.bare_digs u z (by rw [← HU.out]; exact hdt) _ (by rw [← HY.out]; simp; exact Array.getElem_mem _)
                obtain ⟨hc1, hc2⟩ := hc1
                have hv := H1.out
                have hj2 : j < (Wd.bare u z).length := by rw [← HY.out]; simpa using hj
                have hj3 : (Wd.bare u z)[j] = y[j]'hj := by simp only [← HY.out]; simp; rfl
                rw [List.take_succ_eq_append_getElem hj2, Wd.val_snoc, hj3] at hv
                have HVN : Hid (N = Wd.val ((Wd.bare u z).take j) * 10 + ((y[j]'hj).toNat - 48)) := hv
                clear hv hj3
                go_wp2_with (fail)
                · exfalso
                  have hx : (N : Int) < 0 ∨ (((y[j]'hj).toNat : Int) != 48 + (N : Int) % 10) = true := by assumption
                  have := HVN.out
                  rcases hx with hx | hx
                  · omega
                  · simp at hx; omega
                · refine ⟨⟨j, N / 10, by omega, by omega, rfl, by simp, ?_⟩, by simp [intOf]⟩
                  show _ = _
                  have := HVN.out; omega
          · skip
            have hsz : (x ++ (⟨#[32, 120, 49]⟩ : ByteArray)).size ≤ 16384 := sz_beh x _ hx60 (by decide)
            have HD : Hid ((x ++ (⟨#[32, 120, 49]⟩ : ByteArray)).data.toList = t ++ [32, 120, 49]) := by show _ = _; rw [ByteArray.data_append, Array.toList_append, HX.out]
            have HF3 := HF2.out [32, 120, 49] (by first | exact .inl rfl | exact .inr ⟨_, rfl⟩)
            have HN : Hid (nextV (Wd.next (x ++ (⟨#[32, 120, 49]⟩ : ByteArray)).data.toList (0 : Int).toNat) = .tuple #[.agg #[.int .u8 1, .string ⟨#[]⟩, .int .i64 (Wd.val t), .int .i64 1, .int .i64 0, .int .i64 (k + 1)], .agg #[.int .i64 0, .int .i64 0]]) := by
              show _ = _
              rw [HD.out, show (0 : Int).toNat = 0 from rfl, HF3.out, if_pos HV.out]
              simp only [nextV, tokV, faultV, HTL.out, Int.natCast_add]; rfl
            have hxx : ¬ (9223372036854775807 < x.size + 3) := by omega
            have hxy : ¬ (9223372036854775807 < x.size) := by omega
            go_wp2_with (fail)
            refine (next_any _ _ _ hsz (by omega) (Int.natCast_nonneg _) (hsh.below hbN)).mono ?_
            rintro e w3 ⟨rfl, hb3⟩
            have hbM := hbN.trans (hb3.mono hbN.size)
            rw [HN.out]
            obtain ⟨V, hV⟩ : ∃ V, V = Wd.val t := ⟨_, rfl⟩
            rw [← hV]
            have HVV := Lib.hid hV
            have hVm : V ≤ 9223372036854775807 := by rw [hV]; exact HV.out
            clear hV
            go_wp2_with (fail)
            have hbP : Below w.heap.size w ((w3.alloc (.cells #[.int .u8 1, .string ⟨#[]⟩, .int .i64 V, .int .i64 1, .int .i64 0, .int .i64 (k + 1)] 34)).alloc (.cells #[.int .i64 0, .int .i64 0] 37)) := (hbM.alloc hbM.size _).alloc (by have := hbM.size; simp; omega) _
            have heq : ((k : Int) + 1 == (x.size : Int)) = true := by rw [HXS.out]; simp
            go_loop [13, 14] (fun p i => ∃ (m N : Nat), m ≤ y.size ∧ N ≤ 9223372036854775807 ∧ i = .int .i64 ((m : Int) - 1) ∧ p = .int .i64 N ∧ Hid (N = Wd.val ((Wd.bare u z).take m))) (fun _ i => (intOf i + 1).toNat)
            case atStart =>
              refine ⟨y.size, V, Nat.le_refl _, hVm, rfl, rfl, ?_⟩
              show _ = _
              rw [HVV.out, ← HY.out, List.take_of_length_le (by simp), HY.out, Wd.bare_val, ← HU.out]
            case round =>
              obtain ⟨m, N, hm1, hN1, rfl, rfl, H1⟩ := hrel
              rcases m with _ | j
              · obtain rfl : N = 0 := by rw [H1.out]; rfl
                go_wp2_with (fail)
                refine (awake_any _ (hsh.below hbP)).mono ?_
                rintro e w5 ⟨rfl, hb5⟩
                go_wp2_with (fail)
                go_ret
                exact ⟨rfl, hbP.trans (hb5.mono hbP.size)⟩
              · have hj : j < y.size := by omega
                have ej : (((j + 1 : Nat) : Int) - 1) = (j : Int) := by omega
                rw [ej]
                have hc1 : 48 ≤ (y[j]'hj).toNat ∧ (y[j]'hj).toNat ≤ 57 := Wd.bare_digs u z (by rw [← HU.out]; exact hdt) _ (by rw [← HY.out]; simp; exact Array.getElem_mem _)
                obtain ⟨hc1, hc2⟩ := hc1
                have hv := H1.out
                have hj2 : j < (Wd.bare u z).length := by rw [← HY.out]; simpa using hj
                have hj3 : (Wd.bare u z)[j] = y[j]'hj := by simp only [← HY.out]; simp; rfl
                rw [List.take_succ_eq_append_getElem hj2, Wd.val_snoc, hj3] at hv
                have HVN : Hid (N = Wd.val ((Wd.bare u z).take j) * 10 + ((y[j]'hj).toNat - 48)) := hv
                clear hv hj3
                go_wp2_with (fail)
                · exfalso
                  have hx : (N : Int) < 0 ∨ (((y[j]'hj).toNat : Int) != 48 + (N : Int) % 10) = true := by assumption
                  have := HVN.out
                  rcases hx with hx | hx
                  · omega
                  · simp at hx; omega
                · refine ⟨⟨j, N / 10, by omega, by omega, rfl, by simp, ?_⟩, by simp [intOf]⟩
                  show _ = _
                  have := HVN.out; omega
      · go_wp2_with (fail)
        refine (Tryd.Builder_String w.heap.size w.heap.size t _ HB.out HT.out).mono ?_
        rintro e w1 ⟨rfl, hb1⟩
        have hbX := hbw.trans hb1
        obtain ⟨x, hx⟩ : ∃ x : ByteArray, x = ⟨t.toArray⟩ := ⟨_, rfl⟩
        rw [← hx]
        have HX : Hid (x.data.toList = t) := by show _ = _; rw [hx]
        have hxs : x.size = m := by rw [hx]; exact HTL.out
        obtain ⟨k, rfl⟩ : ∃ k, m = k + 1 := ⟨m - 1, by omega⟩
        obtain ⟨u, z, hu⟩ : ∃ u z, t = u ++ [z] := ⟨t.dropLast, t.getLast HT.out, (List.dropLast_concat_getLast HT.out).symm⟩
        have hul : u.length = k := by have := HTL.out; rw [hu] at this; simpa using this
        have hxe : x.toList.isEmpty = false := by rw [Lib.toList_data, HX.out]; simpa using HT.out
        obtain ⟨x1, hx1⟩ : ∃ x1, x1 = x.extract 0 k := ⟨_, rfl⟩
        obtain ⟨x2, hx2⟩ : ∃ x2, x2 = x.extract k (k + 1) := ⟨_, rfl⟩
        have HX1 : Hid (x1.data.toList = u) := by
          show _ = _
          rw [hx1, ByteArray.data_extract, Array.toList_extract, List.extract_eq_take_drop, HX.out, hu, ← hul]; simp
        have HX2 : Hid (x2.data.toList = [z]) := by
          show _ = _
          rw [hx2, ByteArray.data_extract, Array.toList_extract, List.extract_eq_take_drop, HX.out, hu, ← hul]; simp
        have hsl1 : ∀ W, (Instr.slice 9 (.string x) none (some (.int .i64 (k : Int))) none).run Tryd.prog W = .ok (.string x1) W := by
          intro W
          rw [run_slice_string_to_if W 9 x .i64 k Tryd.underlying9, if_pos (by omega), hx1]; simp
        have hsl2 : ∀ W, (Instr.slice 9 (.string x) (some (.int .i64 (k : Int))) none none).run Tryd.prog W = .ok (.string x2) W := by
          intro W
          rw [run_slice_string_from_if W 9 x .i64 k Tryd.underlying9, if_pos (by omega), hxs, hx2]; simp
        obtain ⟨y1, hy1⟩ : ∃ y1 : ByteArray, y1 = ⟨(Lib.trimLeftB u 48).toArray⟩ := ⟨_, rfl⟩
        have HTR : ∀ W, Calls Tryd.prog 8 #[.string x1, .string ⟨#[48]⟩] W fun e w' => e = .returned (.string y1) ∧ w' = W := by
          intro W
          have h := Tryd.strings_TrimLeft_one x1 48 (by decide) W
          rw [HX1.out, ← hy1] at h
          exact h
        obtain ⟨y, hy⟩ : ∃ y : ByteArray, y = y1 ++ x2 := ⟨_, rfl⟩
        have hy1s : y1.size ≤ k := by
          rw [hy1]
          have h1 : (Lib.trimLeftB u 48).length ≤ u.length := (List.dropWhile_sublist _).length_le
          show (Lib.trimLeftB u 48).toArray.size ≤ k
          simp; omega
        have hx2s : x2.size = 1 := by
          have h1 : x2.data.toList.length = 1 := by rw [HX2.out]; rfl
          simpa using h1
        have hadd : ∀ W, (Op.stringOp .add y1 x2).run Tryd.prog W = .ok (.string y) W := by
          intro W; rw [hy]; exact run_string_add_sum W _ _ (by omega)
        have HY : Hid (y.data.toList = Wd.bare u z) := by
          show _ = _
          rw [hy, ByteArray.data_append, Array.toList_append, HX2.out, hy1]; rfl
        have hw : IntKind.i64.wrap ((x.size : Int) - 1) = k := by rw [hxs, IntWalk.i64_in _ (by omega)]; omega
        have HU := Lib.hid hu
        have HXS := Lib.hid hxs
        have HTR2 := Lib.hid HTR
        clear hx hu hul hxs HTR hx1 hx2 hy1 hy hx2s
        go_wp2_with (fail)
        go_quiet ((go_at_call 8; exact Calls.quiet_of_same (HTR2.out _)))
        clear hadd hsl1 hsl2
        have hbN : Below w.heap.size w (w1.drewN nq) := hbX.trans ((Drawn.refl w1).step nq |>.below _)
        generalize w1.drewN nq = w2 at *
        have hx60 : x.size ≤ 60 := by have := HXS.out; omega
        have hy60 : y.size ≤ 60 := by
          have h1 : y.data.toList.length = y.size := by simp
          have h2 : (Wd.bare u z).length ≤ k + 1 := by
            have h3 : (u.dropWhile (· == 48)).length ≤ u.length := (List.dropWhile_sublist _).length_le
            have h4 := HTL.out
            rw [HU.out] at h4
            unfold Wd.bare
            simp at h4 ⊢; omega
          rw [HY.out] at h1; omega
        have HF : ∀ b : List UInt8, (b = [] ∨ ∃ r, b = 32 :: r) → Hid (Wd.next (t ++ b) 0 = if Wd.val t ≤ 9223372036854775807 then .ok ⟨1, [], Wd.val t, 1, 0, t.length⟩ else .error 1) := fun b hb => Wd.next_digits t b hdt HT.out hb
        have HF2 := Lib.hid HF
        clear HF
        have hyl : y.toList = Wd.bare u z := by rw [Lib.toList_data, HY.out]
        have hys : y.size = (Wd.bare u z).length := by rw [← HY.out]; simp
        have hdu : Wd.Digs (u ++ [z]) := by rw [← HU.out]; exact hdt
        rcases h19 : decide ((y.size : Int) < 19) with _ | _
        · rcases h19b : ((y.size : Int) == 19) with _ | _
          · have hno : 9223372036854775807 < Wd.val t := by
              rw [HU.out]
              exact Wd.fits_no u z hdu (by simp at h19; omega) (.inl (by simp at h19b; omega))
            have HV := Lib.hid hno
            clear hno hyl hys
            rcases hname : name with _ | _
            · skip
              have hsz : (x ++ (⟨#[]⟩ : ByteArray)).size ≤ 16384 := sz_beh x _ hx60 (by decide)
              have HD : Hid ((x ++ (⟨#[]⟩ : ByteArray)).data.toList = t ++ []) := by show _ = _; rw [ByteArray.data_append, Array.toList_append, HX.out]
              have HF3 := HF2.out [] (by first | exact .inl rfl | exact .inr ⟨_, rfl⟩)
              have HN : Hid (nextV (Wd.next (x ++ (⟨#[]⟩ : ByteArray)).data.toList (0 : Int).toNat) = .tuple #[.agg #[.int .u8 0, .string ⟨#[]⟩, .int .i64 0, .int .i64 0, .int .i64 0, .int .i64 0], .agg #[.int .i64 100, .int .i64 1]]) := by
                show _ = _
                rw [HD.out, show (0 : Int).toNat = 0 from rfl, HF3.out, if_neg (by have := HV.out; omega)]; rfl
              have hxx : ¬ (9223372036854775807 < x.size + 3) := by omega
              have hxy : ¬ (9223372036854775807 < x.size) := by omega
              go_wp2_with (fail)
              refine (next_any _ _ _ hsz (by omega) (Int.natCast_nonneg _) (hsh.below hbN)).mono ?_
              rintro e w3 ⟨rfl, hb3⟩
              have hbM := hbN.trans (hb3.mono hbN.size)
              rw [HN.out]
              go_wp2_with (fail)
              have hbP : Below w.heap.size w ((w3.alloc (.cells #[.int .u8 0, .string ⟨#[]⟩, .int .i64 0, .int .i64 0, .int .i64 0, .int .i64 0] 34)).alloc (.cells #[.int .i64 100, .int .i64 1] 37)) := (hbM.alloc hbM.size _).alloc (by have := hbM.size; simp; omega) _
              refine (not_yes _ _ _ _ hsz (by omega) (Int.natCast_nonneg _) (hsh.below hbP) HN.out).mono ?_
              rintro e w4 ⟨rfl, hb4⟩
              have hbQ := hbP.trans (hb4.mono hbP.size)
              go_wp2_with (fail)
              refine (awake_any _ (hsh.below hbQ)).mono ?_
              rintro e w5 ⟨rfl, hb5⟩
              go_wp2_with (fail)
              go_ret
              exact ⟨rfl, hbQ.trans (hb5.mono hbQ.size)⟩
            · skip
              have hsz : (x ++ (⟨#[32, 120, 49]⟩ : ByteArray)).size ≤ 16384 := sz_beh x _ hx60 (by decide)
              have HD : Hid ((x ++ (⟨#[32, 120, 49]⟩ : ByteArray)).data.toList = t ++ [32, 120, 49]) := by show _ = _; rw [ByteArray.data_append, Array.toList_append, HX.out]
              have HF3 := HF2.out [32, 120, 49] (by first | exact .inl rfl | exact .inr ⟨_, rfl⟩)
              have HN : Hid (nextV (Wd.next (x ++ (⟨#[32, 120, 49]⟩ : ByteArray)).data.toList (0 : Int).toNat) = .tuple #[.agg #[.int .u8 0, .string ⟨#[]⟩, .int .i64 0, .int .i64 0, .int .i64 0, .int .i64 0], .agg #[.int .i64 100, .int .i64 1]]) := by
                show _ = _
                rw [HD.out, show (0 : Int).toNat = 0 from rfl, HF3.out, if_neg (by have := HV.out; omega)]; rfl
              have hxx : ¬ (9223372036854775807 < x.size + 3) := by omega
              have hxy : ¬ (9223372036854775807 < x.size) := by omega
              go_wp2_with (fail)
              refine (next_any _ _ _ hsz (by omega) (Int.natCast_nonneg _) (hsh.below hbN)).mono ?_
              rintro e w3 ⟨rfl, hb3⟩
              have hbM := hbN.trans (hb3.mono hbN.size)
              rw [HN.out]
              go_wp2_with (fail)
              have hbP : Below w.heap.size w ((w3.alloc (.cells #[.int .u8 0, .string ⟨#[]⟩, .int .i64 0, .int .i64 0, .int .i64 0, .int .i64 0] 34)).alloc (.cells #[.int .i64 100, .int .i64 1] 37)) := (hbM.alloc hbM.size _).alloc (by have := hbM.size; simp; omega) _
              refine (not_yes _ _ _ _ hsz (by omega) (Int.natCast_nonneg _) (hsh.below hbP) HN.out).mono ?_
              rintro e w4 ⟨rfl, hb4⟩
              have hbQ := hbP.trans (hb4.mono hbP.size)
              go_wp2_with (fail)
              refine (awake_any _ (hsh.below hbQ)).mono ?_
              rintro e w5 ⟨rfl, hb5⟩
              go_wp2_with (fail)
              go_ret
              exact ⟨rfl, hbQ.trans (hb5.mono hbQ.size)⟩
          · rcases hor : (Op.bytesLess y.toList [57, 50, 50, 51, 51, 55, 50, 48, 51, 54, 56, 53, 52, 55, 55, 53, 56, 48, 55] || y.toList == [57, 50, 50, 51, 51, 55, 50, 48, 51, 54, 56, 53, 52, 55, 55, 53, 56, 48, 55]) with _ | _
            · have hno : 9223372036854775807 < Wd.val t := by
                rw [HU.out]
                exact Wd.fits_no u z hdu (by simp at h19; omega) (.inr (by rw [← hyl]; exact hor))
              have HV := Lib.hid hno
              clear hno hyl hys
              rcases hname : name with _ | _
              · skip
                have hsz : (x ++ (⟨#[]⟩ : ByteArray)).size ≤ 16384 := sz_beh x _ hx60 (by decide)
                have HD : Hid ((x ++ (⟨#[]⟩ : ByteArray)).data.toList = t ++ []) := by show _ = _; rw [ByteArray.data_append, Array.toList_append, HX.out]
                have HF3 := HF2.out [] (by first | exact .inl rfl | exact .inr ⟨_, rfl⟩)
                have HN : Hid (nextV (Wd.next (x ++ (⟨#[]⟩ : ByteArray)).data.toList (0 : Int).toNat) = .tuple #[.agg #[.int .u8 0, .string ⟨#[]⟩, .int .i64 0, .int .i64 0, .int .i64 0, .int .i64 0], .agg #[.int .i64 100, .int .i64 1]]) := by
                  show _ = _
                  rw [HD.out, show (0 : Int).toNat = 0 from rfl, HF3.out, if_neg (by have := HV.out; omega)]; rfl
                have hxx : ¬ (9223372036854775807 < x.size + 3) := by omega
                have hxy : ¬ (9223372036854775807 < x.size) := by omega
                go_wp2_with (fail)
                refine (next_any _ _ _ hsz (by omega) (Int.natCast_nonneg _) (hsh.below hbN)).mono ?_
                rintro e w3 ⟨rfl, hb3⟩
                have hbM := hbN.trans (hb3.mono hbN.size)
                rw [HN.out]
                go_wp2_with (fail)
                have hbP : Below w.heap.size w ((w3.alloc (.cells #[.int .u8 0, .string ⟨#[]⟩, .int .i64 0, .int .i64 0, .int .i64 0, .int .i64 0] 34)).alloc (.cells #[.int .i64 100, .int .i64 1] 37)) := (hbM.alloc hbM.size _).alloc (by have := hbM.size; simp; omega) _
                refine (not_yes _ _ _ _ hsz (by omega) (Int.natCast_nonneg _) (hsh.below hbP) HN.out).mono ?_
                rintro e w4 ⟨rfl, hb4⟩
                have hbQ := hbP.trans (hb4.mono hbP.size)
                go_wp2_with (fail)
                refine (awake_any _ (hsh.below hbQ)).mono ?_
                rintro e w5 ⟨rfl, hb5⟩
                go_wp2_with (fail)
                go_ret
                exact ⟨rfl, hbQ.trans (hb5.mono hbQ.size)⟩
              · skip
                have hsz : (x ++ (⟨#[32, 120, 49]⟩ : ByteArray)).size ≤ 16384 := sz_beh x _ hx60 (by decide)
                have HD : Hid ((x ++ (⟨#[32, 120, 49]⟩ : ByteArray)).data.toList = t ++ [32, 120, 49]) := by show _ = _; rw [ByteArray.data_append, Array.toList_append, HX.out]
                have HF3 := HF2.out [32, 120, 49] (by first | exact .inl rfl | exact .inr ⟨_, rfl⟩)
                have HN : Hid (nextV (Wd.next (x ++ (⟨#[32, 120, 49]⟩ : ByteArray)).data.toList (0 : Int).toNat) = .tuple #[.agg #[.int .u8 0, .string ⟨#[]⟩, .int .i64 0, .int .i64 0, .int .i64 0, .int .i64 0], .agg #[.int .i64 100, .int .i64 1]]) := by
                  show _ = _
                  rw [HD.out, show (0 : Int).toNat = 0 from rfl, HF3.out, if_neg (by have := HV.out; omega)]; rfl
                have hxx : ¬ (9223372036854775807 < x.size + 3) := by omega
                have hxy : ¬ (9223372036854775807 < x.size) := by omega
                go_wp2_with (fail)
                refine (next_any _ _ _ hsz (by omega) (Int.natCast_nonneg _) (hsh.below hbN)).mono ?_
                rintro e w3 ⟨rfl, hb3⟩
                have hbM := hbN.trans (hb3.mono hbN.size)
                rw [HN.out]
                go_wp2_with (fail)
                have hbP : Below w.heap.size w ((w3.alloc (.cells #[.int .u8 0, .string ⟨#[]⟩, .int .i64 0, .int .i64 0, .int .i64 0, .int .i64 0] 34)).alloc (.cells #[.int .i64 100, .int .i64 1] 37)) := (hbM.alloc hbM.size _).alloc (by have := hbM.size; simp; omega) _
                refine (not_yes _ _ _ _ hsz (by omega) (Int.natCast_nonneg _) (hsh.below hbP) HN.out).mono ?_
                rintro e w4 ⟨rfl, hb4⟩
                have hbQ := hbP.trans (hb4.mono hbP.size)
                go_wp2_with (fail)
                refine (awake_any _ (hsh.below hbQ)).mono ?_
                rintro e w5 ⟨rfl, hb5⟩
                go_wp2_with (fail)
                go_ret
                exact ⟨rfl, hbQ.trans (hb5.mono hbQ.size)⟩
            · have hyes : Wd.val t ≤ 9223372036854775807 := by
                rw [HU.out]
                exact Wd.fits_yes u z hdu (.inr ⟨by simp at h19b; omega, by rw [← hyl]; exact hor⟩)
              have HV := Lib.hid hyes
              clear hyes hyl hys
              rcases hname : name with _ | _
              · skip
                have hsz : (x ++ (⟨#[]⟩ : ByteArray)).size ≤ 16384 := sz_beh x _ hx60 (by decide)
                have HD : Hid ((x ++ (⟨#[]⟩ : ByteArray)).data.toList = t ++ []) := by show _ = _; rw [ByteArray.data_append, Array.toList_append, HX.out]
                have HF3 := HF2.out [] (by first | exact .inl rfl | exact .inr ⟨_, rfl⟩)
                have HN : Hid (nextV (Wd.next (x ++ (⟨#[]⟩ : ByteArray)).data.toList (0 : Int).toNat) = .tuple #[.agg #[.int .u8 1, .string ⟨#[]⟩, .int .i64 (Wd.val t), .int .i64 1, .int .i64 0, .int .i64 (k + 1)], .agg #[.int .i64 0, .int .i64 0]]) := by
                  show _ = _
                  rw [HD.out, show (0 : Int).toNat = 0 from rfl, HF3.out, if_pos HV.out]
                  simp only [nextV, tokV, faultV, HTL.out, Int.natCast_add]; rfl
                have hxx : ¬ (9223372036854775807 < x.size + 3) := by omega
                have hxy : ¬ (9223372036854775807 < x.size) := by omega
                go_wp2_with (fail)
                refine (next_any _ _ _ hsz (by omega) (Int.natCast_nonneg _) (hsh.below hbN)).mono ?_
                rintro e w3 ⟨rfl, hb3⟩
                have hbM := hbN.trans (hb3.mono hbN.size)
                rw [HN.out]
                obtain ⟨V, hV⟩ : ∃ V, V = Wd.val t := ⟨_, rfl⟩
                rw [← hV]
                have HVV := Lib.hid hV
                have hVm : V ≤ 9223372036854775807 := by rw [hV]; exact HV.out
                clear hV
                go_wp2_with (fail)
                have hbP : Below w.heap.size w ((w3.alloc (.cells #[.int .u8 1, .string ⟨#[]⟩, .int .i64 V, .int .i64 1, .int .i64 0, .int .i64 (k + 1)] 34)).alloc (.cells #[.int .i64 0, .int .i64 0] 37)) := (hbM.alloc hbM.size _).alloc (by have := hbM.size; simp; omega) _
                have heq : ((k : Int) + 1 == (x.size : Int)) = true := by rw [HXS.out]; simp
                go_loop [13, 14] (fun p i => ∃ (m N : Nat), m ≤ y.size ∧ N ≤ 9223372036854775807 ∧ i = .int .i64 ((m : Int) - 1) ∧ p = .int .i64 N ∧ Hid (N = Wd.val ((Wd.bare u z).take m))) (fun _ i => (intOf i + 1).toNat)
                case atStart =>
                  refine ⟨y.size, V, Nat.le_refl _, hVm, rfl, rfl, ?_⟩
                  show _ = _
                  rw [HVV.out, ← HY.out, List.take_of_length_le (by simp), HY.out, Wd.bare_val, ← HU.out]
                case round =>
                  obtain ⟨m, N, hm1, hN1, rfl, rfl, H1⟩ := hrel
                  rcases m with _ | j
                  · obtain rfl : N = 0 := by rw [H1.out]; rfl
                    go_wp2_with (fail)
                    refine (awake_any _ (hsh.below hbP)).mono ?_
                    rintro e w5 ⟨rfl, hb5⟩
                    go_wp2_with (fail)
                    go_ret
                    exact ⟨rfl, hbP.trans (hb5.mono hbP.size)⟩
                  · have hj : j < y.size := by omega
                    have ej : (((j + 1 : Nat) : Int) - 1) = (j : Int) := by omega
                    rw [ej]
                    have hc1 : 48 ≤ (y[j]'hj).toNat ∧ (y[j]'hj).toNat ≤ 57 := Wd.bare_digs u z (by rw [← HU.out]; exact hdt) _ (by rw [← HY.out]; simp; exact Array.getElem_mem _)
                    obtain ⟨hc1, hc2⟩ := hc1
                    have hv := H1.out
                    have hj2 : j < (Wd.bare u z).length := by rw [← HY.out]; simpa using hj
                    have hj3 : (Wd.bare u z)[j] = y[j]'hj := by simp only [← HY.out]; simp; rfl
                    rw [List.take_succ_eq_append_getElem hj2, Wd.val_snoc, hj3] at hv
                    have HVN : Hid (N = Wd.val ((Wd.bare u z).take j) * 10 + ((y[j]'hj).toNat - 48)) := hv
                    clear hv hj3
                    go_wp2_with (fail)
                    · exfalso
                      have hx : (N : Int) < 0 ∨ (((y[j]'hj).toNat : Int) != 48 + (N : Int) % 10) = true := by assumption
                      have := HVN.out
                      rcases hx with hx | hx
                      · omega
                      · simp at hx; omega
                    · refine ⟨⟨j, N / 10, by omega, by omega, rfl, by simp, ?_⟩, by simp [intOf]⟩
                      show _ = _
                      have := HVN.out; omega
              · skip
                have hsz : (x ++ (⟨#[32, 120, 49]⟩ : ByteArray)).size ≤ 16384 := sz_beh x _ hx60 (by decide)
                have HD : Hid ((x ++ (⟨#[32, 120, 49]⟩ : ByteArray)).data.toList = t ++ [32, 120, 49]) := by show _ = _; rw [ByteArray.data_append, Array.toList_append, HX.out]
                have HF3 := HF2.out [32, 120, 49] (by first | exact .inl rfl | exact .inr ⟨_, rfl⟩)
                have HN : Hid (nextV (Wd.next (x ++ (⟨#[32, 120, 49]⟩ : ByteArray)).data.toList (0 : Int).toNat) = .tuple #[.agg #[.int .u8 1, .string ⟨#[]⟩, .int .i64 (Wd.val t), .int .i64 1, .int .i64 0, .int .i64 (k + 1)], .agg #[.int .i64 0, .int .i64 0]]) := by
                  show _ = _
                  rw [HD.out, show (0 : Int).toNat = 0 from rfl, HF3.out, if_pos HV.out]
                  simp only [nextV, tokV, faultV, HTL.out, Int.natCast_add]; rfl
                have hxx : ¬ (9223372036854775807 < x.size + 3) := by omega
                have hxy : ¬ (9223372036854775807 < x.size) := by omega
                go_wp2_with (fail)
                refine (next_any _ _ _ hsz (by omega) (Int.natCast_nonneg _) (hsh.below hbN)).mono ?_
                rintro e w3 ⟨rfl, hb3⟩
                have hbM := hbN.trans (hb3.mono hbN.size)
                rw [HN.out]
                obtain ⟨V, hV⟩ : ∃ V, V = Wd.val t := ⟨_, rfl⟩
                rw [← hV]
                have HVV := Lib.hid hV
                have hVm : V ≤ 9223372036854775807 := by rw [hV]; exact HV.out
                clear hV
                go_wp2_with (fail)
                have hbP : Below w.heap.size w ((w3.alloc (.cells #[.int .u8 1, .string ⟨#[]⟩, .int .i64 V, .int .i64 1, .int .i64 0, .int .i64 (k + 1)] 34)).alloc (.cells #[.int .i64 0, .int .i64 0] 37)) := (hbM.alloc hbM.size _).alloc (by have := hbM.size; simp; omega) _
                have heq : ((k : Int) + 1 == (x.size : Int)) = true := by rw [HXS.out]; simp
                go_loop [13, 14] (fun p i => ∃ (m N : Nat), m ≤ y.size ∧ N ≤ 9223372036854775807 ∧ i = .int .i64 ((m : Int) - 1) ∧ p = .int .i64 N ∧ Hid (N = Wd.val ((Wd.bare u z).take m))) (fun _ i => (intOf i + 1).toNat)
                case atStart =>
                  refine ⟨y.size, V, Nat.le_refl _, hVm, rfl, rfl, ?_⟩
                  show _ = _
                  rw [HVV.out, ← HY.out, List.take_of_length_le (by simp), HY.out, Wd.bare_val, ← HU.out]
                case round =>
                  obtain ⟨m, N, hm1, hN1, rfl, rfl, H1⟩ := hrel
                  rcases m with _ | j
                  · obtain rfl : N = 0 := by rw [H1.out]; rfl
                    go_wp2_with (fail)
                    refine (awake_any _ (hsh.below hbP)).mono ?_
                    rintro e w5 ⟨rfl, hb5⟩
                    go_wp2_with (fail)
                    go_ret
                    exact ⟨rfl, hbP.trans (hb5.mono hbP.size)⟩
                  · have hj : j < y.size := by omega
                    have ej : (((j + 1 : Nat) : Int) - 1) = (j : Int) := by omega
                    rw [ej]
                    have hc1 : 48 ≤ (y[j]'hj).toNat ∧ (y[j]'hj).toNat ≤ 57 := Wd.bare_digs u z (by rw [← HU.out]; exact hdt) _ (by rw [← HY.out]; simp; exact Array.getElem_mem _)
                    obtain ⟨hc1, hc2⟩ := hc1
                    have hv := H1.out
                    have hj2 : j < (Wd.bare u z).length := by rw [← HY.out]; simpa using hj
                    have hj3 : (Wd.bare u z)[j] = y[j]'hj := by simp only [← HY.out]; simp; rfl
                    rw [List.take_succ_eq_append_getElem hj2, Wd.val_snoc, hj3] at hv
                    have HVN : Hid (N = Wd.val ((Wd.bare u z).take j) * 10 + ((y[j]'hj).toNat - 48)) := hv
                    clear hv hj3
                    go_wp2_with (fail)
                    · exfalso
                      have hx : (N : Int) < 0 ∨ (((y[j]'hj).toNat : Int) != 48 + (N : Int) % 10) = true := by assumption
                      have := HVN.out
                      rcases hx with hx | hx
                      · omega
                      · simp at hx; omega
                    · refine ⟨⟨j, N / 10, by omega, by omega, rfl, by simp, ?_⟩, by simp [intOf]⟩
                      show _ = _
                      have := HVN.out; omega
        · have hyes : Wd.val t ≤ 9223372036854775807 := by
            rw [HU.out]
            exact Wd.fits_yes u z hdu (.inl (by simp at h19; omega))
          have HV := Lib.hid hyes
          clear hyes hyl hys
          rcases hname : name with _ | _
          · skip
            have hsz : (x ++ (⟨#[]⟩ : ByteArray)).size ≤ 16384 := sz_beh x _ hx60 (by decide)
            have HD : Hid ((x ++ (⟨#[]⟩ : ByteArray)).data.toList = t ++ []) := by show _ = _; rw [ByteArray.data_append, Array.toList_append, HX.out]
            have HF3 := HF2.out [] (by first | exact .inl rfl | exact .inr ⟨_, rfl⟩)
            have HN : Hid (nextV (Wd.next (x ++ (⟨#[]⟩ : ByteArray)).data.toList (0 : Int).toNat) = .tuple #[.agg #[.int .u8 1, .string ⟨#[]⟩, .int .i64 (Wd.val t), .int .i64 1, .int .i64 0, .int .i64 (k + 1)], .agg #[.int .i64 0, .int .i64 0]]) := by
              show _ = _
              rw [HD.out, show (0 : Int).toNat = 0 from rfl, HF3.out, if_pos HV.out]
              simp only [nextV, tokV, faultV, HTL.out, Int.natCast_add]; rfl
            have hxx : ¬ (9223372036854775807 < x.size + 3) := by omega
            have hxy : ¬ (9223372036854775807 < x.size) := by omega
            go_wp2_with (fail)
            refine (next_any _ _ _ hsz (by omega) (Int.natCast_nonneg _) (hsh.below hbN)).mono ?_
            rintro e w3 ⟨rfl, hb3⟩
            have hbM := hbN.trans (hb3.mono hbN.size)
            rw [HN.out]
            obtain ⟨V, hV⟩ : ∃ V, V = Wd.val t := ⟨_, rfl⟩
            rw [← hV]
            have HVV := Lib.hid hV
            have hVm : V ≤ 9223372036854775807 := by rw [hV]; exact HV.out
            clear hV
            go_wp2_with (fail)
            have hbP : Below w.heap.size w ((w3.alloc (.cells #[.int .u8 1, .string ⟨#[]⟩, .int .i64 V, .int .i64 1, .int .i64 0, .int .i64 (k + 1)] 34)).alloc (.cells #[.int .i64 0, .int .i64 0] 37)) := (hbM.alloc hbM.size _).alloc (by have := hbM.size; simp; omega) _
            have heq : ((k : Int) + 1 == (x.size : Int)) = true := by rw [HXS.out]; simp
            go_loop [13, 14] (fun p i => ∃ (m N : Nat), m ≤ y.size ∧ N ≤ 9223372036854775807 ∧ i = .int .i64 ((m : Int) - 1) ∧ p = .int .i64 N ∧ Hid (N = Wd.val ((Wd.bare u z).take m))) (fun _ i => (intOf i + 1).toNat)
            case atStart =>
              refine ⟨y.size, V, Nat.le_refl _, hVm, rfl, rfl, ?_⟩
              show _ = _
              rw [HVV.out, ← HY.out, List.take_of_length_le (by simp), HY.out, Wd.bare_val, ← HU.out]
            case round =>
              obtain ⟨m, N, hm1, hN1, rfl, rfl, H1⟩ := hrel
              rcases m with _ | j
              · obtain rfl : N = 0 := by rw [H1.out]; rfl
                go_wp2_with (fail)
                refine (awake_any _ (hsh.below hbP)).mono ?_
                rintro e w5 ⟨rfl, hb5⟩
                go_wp2_with (fail)
                go_ret
                exact ⟨rfl, hbP.trans (hb5.mono hbP.size)⟩
              · have hj : j < y.size := by omega
                have ej : (((j + 1 : Nat) : Int) - 1) = (j : Int) := by omega
                rw [ej]
                have hc1 : 48 ≤ (y[j]'hj).toNat ∧ (y[j]'hj).toNat ≤ 57 := Wd.bare_digs u z (by rw [← HU.out]; exact hdt) _ (by rw [← HY.out]; simp; exact Array.getElem_mem _)
                obtain ⟨hc1, hc2⟩ := hc1
                have hv := H1.out
                have hj2 : j < (Wd.bare u z).length := by rw [← HY.out]; simpa using hj
                have hj3 : (Wd.bare u z)[j] = y[j]'hj := by simp only [← HY.out]; simp; rfl
                rw [List.take_succ_eq_append_getElem hj2, Wd.val_snoc, hj3] at hv
                have HVN : Hid (N = Wd.val ((Wd.bare u z).take j) * 10 + ((y[j]'hj).toNat - 48)) := hv
                clear hv hj3
                go_wp2_with (fail)
                · exfalso
                  have hx : (N : Int) < 0 ∨ (((y[j]'hj).toNat : Int) != 48 + (N : Int) % 10) = true := by assumption
                  have := HVN.out
                  rcases hx with hx | hx
                  · omega
                  · simp at hx; omega
                · refine ⟨⟨j, N / 10, by omega, by omega, rfl, by simp, ?_⟩, by simp [intOf]⟩
                  show _ = _
                  have := HVN.out; omega
          · skip
            have hsz : (x ++ (⟨#[32, 120, 49]⟩ : ByteArray)).size ≤ 16384 := sz_beh x _ hx60 (by decide)
            have HD : Hid ((x ++ (⟨#[32, 120, 49]⟩ : ByteArray)).data.toList = t ++ [32, 120, 49]) := by show _ = _; rw [ByteArray.data_append, Array.toList_append, HX.out]
            have HF3 := HF2.out [32, 120, 49] (by first | exact .inl rfl | exact .inr ⟨_, rfl⟩)
            have HN : Hid (nextV (Wd.next (x ++ (⟨#[32, 120, 49]⟩ : ByteArray)).data.toList (0 : Int).toNat) = .tuple #[.agg #[.int .u8 1, .string ⟨#[]⟩, .int .i64 (Wd.val t), .int .i64 1, .int .i64 0, .int .i64 (k + 1)], .agg #[.int .i64 0, .int .i64 0]]) := by
              show _ = _
              rw [HD.out, show (0 : Int).toNat = 0 from rfl, HF3.out, if_pos HV.out]
              simp only [nextV, tokV, faultV, HTL.out, Int.natCast_add]; rfl
            have hxx : ¬ (9223372036854775807 < x.size + 3) := by omega
            have hxy : ¬ (9223372036854775807 < x.size) := by omega
            go_wp2_with (fail)
            refine (next_any _ _ _ hsz (by omega) (Int.natCast_nonneg _) (hsh.below hbN)).mono ?_
            rintro e w3 ⟨rfl, hb3⟩
            have hbM := hbN.trans (hb3.mono hbN.size)
            rw [HN.out]
            obtain ⟨V, hV⟩ : ∃ V, V = Wd.val t := ⟨_, rfl⟩
            rw [← hV]
            have HVV := Lib.hid hV
            have hVm : V ≤ 9223372036854775807 := by rw [hV]; exact HV.out
            clear hV
            go_wp2_with (fail)
            have hbP : Below w.heap.size w ((w3.alloc (.cells #[.int .u8 1, .string ⟨#[]⟩, .int .i64 V, .int .i64 1, .int .i64 0, .int .i64 (k + 1)] 34)).alloc (.cells #[.int .i64 0, .int .i64 0] 37)) := (hbM.alloc hbM.size _).alloc (by have := hbM.size; simp; omega) _
            have heq : ((k : Int) + 1 == (x.size : Int)) = true := by rw [HXS.out]; simp
            go_loop [13, 14] (fun p i => ∃ (m N : Nat), m ≤ y.size ∧ N ≤ 9223372036854775807 ∧ i = .int .i64 ((m : Int) - 1) ∧ p = .int .i64 N ∧ Hid (N = Wd.val ((Wd.bare u z).take m))) (fun _ i => (intOf i + 1).toNat)
            case atStart =>
              refine ⟨y.size, V, Nat.le_refl _, hVm, rfl, rfl, ?_⟩
              show _ = _
              rw [HVV.out, ← HY.out, List.take_of_length_le (by simp), HY.out, Wd.bare_val, ← HU.out]
            case round =>
              obtain ⟨m, N, hm1, hN1, rfl, rfl, H1⟩ := hrel
              rcases m with _ | j
              · obtain rfl : N = 0 := by rw [H1.out]; rfl
                go_wp2_with (fail)
                refine (awake_any _ (hsh.below hbP)).mono ?_
                rintro e w5 ⟨rfl, hb5⟩
                go_wp2_with (fail)
                go_ret
                exact ⟨rfl, hbP.trans (hb5.mono hbP.size)⟩
              · have hj : j < y.size := by omega
                have ej : (((j + 1 : Nat) : Int) - 1) = (j : Int) := by omega
                rw [ej]
                have hc1 : 48 ≤ (y[j]'hj).toNat ∧ (y[j]'hj).toNat ≤ 57 := Wd.bare_digs u z (by rw [← HU.out]; exact hdt) _ (by rw [← HY.out]; simp; exact Array.getElem_mem _)
                obtain ⟨hc1, hc2⟩ := hc1
                have hv := H1.out
                have hj2 : j < (Wd.bare u z).length := by rw [← HY.out]; simpa using hj
                have hj3 : (Wd.bare u z)[j] = y[j]'hj := by simp only [← HY.out]; simp; rfl
                rw [List.take_succ_eq_append_getElem hj2, Wd.val_snoc, hj3] at hv
                have HVN : Hid (N = Wd.val ((Wd.bare u z).take j) * 10 + ((y[j]'hj).toNat - 48)) := hv
                clear hv hj3
                go_wp2_with (fail)
                · exfalso
                  have hx : (N : Int) < 0 ∨ (((y[j]'hj).toNat : Int) != 48 + (N : Int) % 10) = true := by assumption
                  have := HVN.out
                  rcases hx with hx | hx
                  · omega
                  · simp at hx; omega
                · refine ⟨⟨j, N / 10, by omega, by omega, rfl, by simp, ?_⟩, by simp [intOf]⟩
                  show _ = _
                  have := HVN.out; omega
end Go.Proofs.YtedcdlofjemchaaDoor
