/- The walk of the law WordsNames. -/
import Derived.Test.YtedcdlofjemchaaDoorWalkIs
import Derived.Test.YtedcdlofjemchaaDoorPlainNames
import Derived.Test.YtedcdlofjemchaaDoorLawDigits
import Derived.Test.YtedcdlofjemchaaDoorShelf2
import Derived.Lib.LaidTab
import Derived.Deep.DeepCutAuto
import Derived.Deep.CutBlock
namespace Go.Proofs.YtedcdlofjemchaaDoor
open Go.RowKit
set_option linter.unusedVariables false
set_option linter.unusedSimpArgs false

theorem tabIs_below {w w' : World} {nm : String} {k : IntKind} {zs : List Int} (h : Lib.TabIs Tryd.prog w nm k zs) (hb : Below w.heap.size w w') : Lib.TabIs Tryd.prog w' nm k zs := by
  unfold Lib.TabIs World.var? at h ⊢
  cases hg : Tryd.prog.globalNamed nm with
  | none => rw [hg] at h; simp at h
  | some g =>
    rw [hg] at h
    rw [← h]
    rcases Nat.lt_or_ge g w.heap.size with hl | hl
    · show (match w'.heap[g]? with | some (.cells cs _ _) => some cs | _ => none) = (match w.heap[g]? with | some (.cells cs _ _) => some cs | _ => none)
      rw [hb.block g hl]
    · simp [Array.getElem?_eq_none hl] at h
theorem cls_four (c : UInt8) (h : Wd.cls c = 3 ∨ Wd.cls c = 4) (hn : (c.toNat : Int) < 48 ∨ 57 < (c.toNat : Int)) : Wd.cls c = 4 := by
  rcases h with h | h
  · have := Wd.cls_digit c h; omega
  · exact h
theorem extract_list (x : ByteArray) (l : List UInt8) (hx : x.data.toList = l) (d : Nat) : (x.extract d l.length).data.toList = l.drop d := by
  have hs : x.size = l.length := by rw [← hx]; simp
  rw [← hs, drop_list, hx]
def keyObj : Obj := .cells (Wd.keyList.map fun l => Value.string ⟨l.toArray⟩).toArray 9
theorem fields_keys (w : World) (htab : Lib.TabIs Tryd.prog w "strings.asciiSpace" .u8 Lib.asciiSpaceTab) :
    Calls Tryd.prog 11 #[.string ⟨#[97, 99, 113, 117, 105, 114, 101, 32, 97, 100, 100, 32, 97, 114, 114, 105, 118, 101, 32, 98, 97, 114, 114, 105, 101, 114, 32, 98, 114, 111, 97, 100, 99, 97, 115, 116, 32, 99, 111, 110, 100, 32, 100, 111, 32, 100, 111, 110, 101, 32, 101, 108, 115, 101, 32, 105, 102, 32, 108, 111, 99, 107, 32, 108, 111, 99, 107, 102, 111, 114, 32, 108, 111, 111, 112, 32, 109, 117, 116, 101, 120, 32, 111, 110, 99, 101, 32, 112, 117, 116, 32, 113, 117, 101, 117, 101, 32, 114, 101, 97, 100, 32, 114, 101, 108, 101, 97, 115, 101, 32, 114, 108, 111, 99, 107, 32, 114, 117, 110, 108, 111, 99, 107, 32, 114, 119, 108, 111, 99, 107, 32, 115, 101, 109, 32, 115, 101, 116, 32, 115, 105, 103, 110, 97, 108, 32, 116, 97, 107, 101, 32, 116, 104, 114, 101, 97, 100, 32, 116, 114, 121, 97, 99, 113, 117, 105, 114, 101, 32, 116, 114, 121, 108, 111, 99, 107, 32, 117, 110, 108, 111, 99, 107, 32, 118, 97, 114, 32, 119, 97, 105, 116, 32, 119, 97, 105, 116, 102, 111, 114, 32, 119, 97, 105, 116, 111, 110, 32, 119, 108, 111, 99, 107, 32, 119, 114, 105, 116, 101, 32, 119, 117, 110, 108, 111, 99, 107]⟩] w fun e w' => e = .returned (.slice (some ⟨w.heap.size, 0, none⟩) 37 37) ∧ w.alloc keyObj = w' := by
  have hk : ∀ (s : ByteArray), s.data.toList = Wd.keyText → s.size < 4294967281 → Calls Tryd.prog 11 #[.string s] w fun e w' => e = .returned (.slice (some ⟨w.heap.size, 0, none⟩) 37 37) ∧ w.alloc keyObj = w' := by
    intro s hs hsz
    refine (Tryd.strings_Fields s w hsz ?_ htab).mono ?_
    · intro j b hb
      rw [hs] at hb
      have hall : Wd.keyText.all (fun c => decide (c.toNat < 128)) = true := by decide +kernel
      have := List.all_eq_true.1 hall b (List.mem_of_getElem? hb)
      simpa using this
    · rintro e w' ⟨rfl, rfl⟩
      rw [hs]
      exact ⟨by rw [show Lib.fields Wd.keyText = Wd.keyList from rfl, Wd.keys_many], rfl⟩
  exact hk _ (by decide +kernel) (by decide +kernel)
theorem keyObj_cell (w : World) (i : Nat) (h : i < Wd.keyList.length) : (w.alloc keyObj).cell? ⟨w.heap.size, i, none⟩ = some (.string ⟨(Wd.keyList[i]).toArray⟩) := by
  unfold keyObj
  rw [cell_of_row _ _ _ _ _ _ (heap_alloc_new _ _)]
  simp [h]
theorem key_facts (i : Nat) (h : i < Wd.keyList.length) : 2 ≤ (Wd.keyList[i]).length ∧ (Wd.keyList[i]).length ≤ 20 ∧ Wd.next (Wd.keyList[i]) 0 = .ok ⟨3, Wd.keyList[i], 0, 1, 0, (Wd.keyList[i]).length⟩ ∧ (∀ c ∈ Wd.keyList[i], c.toNat < 128) := by
  have := List.all_eq_true.1 Wd.keys_just _ (List.getElem_mem h)
  simp only [Bool.and_eq_true, decide_eq_true_eq, List.all_eq_true] at this
  exact ⟨this.1.1.1, this.1.1.2, Wd.just_eq this.1.2, this.2⟩
theorem other_facts (i : Nat) (h : i < Wd.keyList.length) (j : Nat) (hj : j < 3) : Wd.next (Wd.other Wd.keyList[i] j) 0 = .ok ⟨if Wd.keyList.contains (Wd.other Wd.keyList[i] j) then 3 else 2, Wd.other Wd.keyList[i] j, 0, 1, 0, (Wd.other Wd.keyList[i] j).length⟩ := by
  have h1 := List.all_eq_true.1 Wd.others_just _ (List.getElem_mem h)
  have h2 := List.all_eq_true.1 h1 j (by rcases j with _ | _ | _ | j <;> simp; omega)
  exact Wd.just_eq h2
theorem alB_at (i : Nat) (hi : i < 63) (h : i < (⟨#[97, 98, 99, 100, 101, 102, 103, 104, 105, 106, 107, 108, 109, 110, 111, 112, 113, 114, 115, 116, 117, 118, 119, 120, 121, 122, 65, 66, 67, 68, 69, 70, 71, 72, 73, 74, 75, 76, 77, 78, 79, 80, 81, 82, 83, 84, 85, 86, 87, 88, 89, 90, 95, 48, 49, 50, 51, 52, 53, 54, 55, 56, 57]⟩ : ByteArray).size) : (⟨#[97, 98, 99, 100, 101, 102, 103, 104, 105, 106, 107, 108, 109, 110, 111, 112, 113, 114, 115, 116, 117, 118, 119, 120, 121, 122, 65, 66, 67, 68, 69, 70, 71, 72, 73, 74, 75, 76, 77, 78, 79, 80, 81, 82, 83, 84, 85, 86, 87, 88, 89, 90, 95, 48, 49, 50, 51, 52, 53, 54, 55, 56, 57]⟩ : ByteArray)[i]'h = Wd.al.getD i 0 := by
  have : ∀ i : Fin 63, (⟨#[97, 98, 99, 100, 101, 102, 103, 104, 105, 106, 107, 108, 109, 110, 111, 112, 113, 114, 115, 116, 117, 118, 119, 120, 121, 122, 65, 66, 67, 68, 69, 70, 71, 72, 73, 74, 75, 76, 77, 78, 79, 80, 81, 82, 83, 84, 85, 86, 87, 88, 89, 90, 95, 48, 49, 50, 51, 52, 53, 54, 55, 56, 57]⟩ : ByteArray)[i.1]'(Nat.lt_of_lt_of_le i.2 (by decide)) = Wd.al.getD i.1 0 := by decide +kernel
  exact this ⟨i, hi⟩
theorem tmod_emod (x n : Int) (hn : 1 ≤ n) : (x.tmod n < 0 → x.tmod n + n = x % n) ∧ (0 ≤ x.tmod n → x.tmod n = x % n) := by
  have h := Int.tmod_eq_emod (a := x) (b := n)
  have hm := Int.emod_nonneg x (show n ≠ 0 by omega)
  have hm2 := Int.emod_lt_of_pos x (show 0 < n by omega)
  split at h
  · exact ⟨fun _ => by omega, fun _ => by omega⟩
  · exact ⟨fun _ => by omega, fun _ => by omega⟩

set_option maxRecDepth 100000 in
theorem pick_any (x n : Int) (w : World) (hn : 1 ≤ n) (hn2 : n ≤ 9223372036854775807) (hx : -9223372036854775808 ≤ x ∧ x ≤ 9223372036854775807) :
    Calls Tryd.prog 12 #[.int .i64 x, .int .i64 n] w fun e w' => e = .returned (.int .i64 (x % n)) ∧ w = w' := by
  obtain ⟨hx1, hx2⟩ := hx
  have hn0 : ¬ n < 1 := by omega
  have ht := Lib.hid (tmod_emod x n hn)
  have ht1 : -n < x.tmod n := Int.lt_tmod_of_pos x (by omega)
  have ht2 : x.tmod n < n := Int.tmod_lt_of_pos x (by omega)
  go_enter Tryd.func12, Tryd.ntmps12
  go_wp2_with (fail)
  · go_ret
    have h0 : x.tmod n < 0 := by assumption
    refine ⟨?_, rfl⟩
    rw [← ht.out.1 h0]; rfl
  · go_ret
    have h0 : 0 ≤ x.tmod n := by assumption
    refine ⟨?_, rfl⟩
    rw [← ht.out.2 h0]; rfl

set_option maxHeartbeats 8000000 in
set_option maxRecDepth 100000 in
theorem names_any (A : Option Addr) (n cap : Nat) (bs : List UInt8) (which change : Int) (w : World) (hsh : Sh w) (hn : bs.length = n) (hm : n ≤ 9223372036854775807) (hwh : -9223372036854775808 ≤ which ∧ which ≤ 9223372036854775807) (hch0 : 0 ≤ change ∧ change ≤ 255)
    (htab : Lib.TabIs Tryd.prog w "strings.asciiSpace" .u8 Lib.asciiSpaceTab)
    (hc : 0 < n → ∃ b off, A = some ⟨b, off, none⟩ ∧ b < w.heap.size ∧ ∀ i (h : i < bs.length), w.cell? ⟨b, off + i, none⟩ = some (.int .u8 bs[i].toNat)) :
    Calls Tryd.prog 4 #[.slice A n cap, .int .i64 which, .int .u8 change] w fun e w' => e = .returned (.bool true) ∧ Below w.heap.size w w' := by
  have HC := Lib.hid hc
  have HN := Lib.hid hn
  have HT := Lib.hid htab
  clear hc hn htab
  go_enter Tryd.func4, Tryd.ntmps4
  go_upto_block 0 with (fail)
  have HB := Lib.hid (builder_new w)
  have hbw := below_alloc1 w (.cells #[.pointer none, .slice none 0 0] 25)
  generalize w.alloc (.cells #[.pointer none, .slice none 0 0] 25) = W at *
  go_cut [8, 9] (fun q p wx => ∃ m d : Nat, m ≤ n ∧ m ≤ 40 ∧ p = .int .i64 m ∧ q = .int .i64 d ∧ d ≤ m ∧ Hid (∀ c ∈ ((bs.take m).map Wd.ch).take d, Wd.cls c = 3) ∧ Lib.IsBuilder 25 5 w.heap.size w.heap.size (Lib.byteCells ((bs.take m).map Wd.ch)) wx ∧ Below w.heap.size w wx)
  case first =>
    go_wp2_with (fail)
    go_loopg [8, 9] 40 (fun k q p wr => ∃ m d : Nat, k + m = 40 ∧ m ≤ n ∧ p = .int .i64 m ∧ q = .int .i64 d ∧ d ≤ m ∧ Hid (∀ c ∈ ((bs.take m).map Wd.ch).take d, Wd.cls c = 3) ∧ Lib.IsBuilder 25 5 w.heap.size w.heap.size (Lib.byteCells ((bs.take m).map Wd.ch)) wr ∧ Below w.heap.size w wr)
    case atStart => exact ⟨0, 0, rfl, by omega, rfl, rfl, by omega, by intro c hc; simp at hc, HB.out, hbw⟩
    case round =>
      clear HB hbw
      obtain ⟨m, d, hk, hmn, rfl, rfl, hdm, HD, hB, hbw⟩ := hrel
      have HB := Lib.hid hB
      clear hB
      by_cases hlt : m < n ∧ m < 40
      · obtain ⟨hlt, hlt2⟩ := hlt
        have hlb : m < bs.length := by have := HN.out; omega
        obtain ⟨b, off, hA, hb, hcc⟩ := HC.out (by omega)
        have hcm : wr.cell? ⟨b, off + m, none⟩ = some (.int .u8 bs[m].toNat) := (hbw.cell (p := ⟨b, off + m, none⟩) hb).trans (hcc m hlb)
        clear hcc
        subst hA
        have hby : bs[m].toNat < 256 := UInt8.toNat_lt _
        obtain ⟨c, hc⟩ : ∃ c, c = Wd.ch bs[m] := ⟨_, rfl⟩
        have hidx : ∀ h : (bs[m]'hlb).toNat % 63 < (⟨#[97, 98, 99, 100, 101, 102, 103, 104, 105, 106, 107, 108, 109, 110, 111, 112, 113, 114, 115, 116, 117, 118, 119, 120, 121, 122, 65, 66, 67, 68, 69, 70, 71, 72, 73, 74, 75, 76, 77, 78, 79, 80, 81, 82, 83, 84, 85, 86, 87, 88, 89, 90, 95, 48, 49, 50, 51, 52, 53, 54, 55, 56, 57]⟩ : ByteArray).size, (⟨#[97, 98, 99, 100, 101, 102, 103, 104, 105, 106, 107, 108, 109, 110, 111, 112, 113, 114, 115, 116, 117, 118, 119, 120, 121, 122, 65, 66, 67, 68, 69, 70, 71, 72, 73, 74, 75, 76, 77, 78, 79, 80, 81, 82, 83, 84, 85, 86, 87, 88, 89, 90, 95, 48, 49, 50, 51, 52, 53, 54, 55, 56, 57]⟩ : ByteArray)[(bs[m]'hlb).toNat % 63]'h = c := by
          intro h
          rw [hc]
          exact alB_at _ (Nat.mod_lt _ (by omega)) h
        have hcc := Wd.ch_char bs[m]
        rw [← hc] at hcc
        have hc2 : c.toNat < 256 := UInt8.toNat_lt _
        have HCC := Lib.hid hcc
        have HCH := Lib.hid hc
        clear hc hcc
        have e : Lib.byteCells ((bs.take (m + 1)).map Wd.ch) = Lib.byteCells ((bs.take m).map Wd.ch) ++ [.int .u8 c.toNat] := by
          rw [List.take_succ_eq_append_getElem hlb, List.map_append, List.map_cons, List.map_nil, Lib.byteCells, Lib.byteCells, List.map_append, List.map_cons, List.map_nil, HCH.out]
        have HE := Lib.hid e
        clear e
        have HT1 : Hid ((bs.take (m + 1)).map Wd.ch = (bs.take m).map Wd.ch ++ [c]) := by
          show _ = _
          rw [List.take_succ_eq_append_getElem hlb, List.map_append, List.map_cons, List.map_nil, HCH.out]
        go_wp2_with (fail)
        all_goals
          refine (writeByte_any w.heap.size w.heap.size _ _ _ HB.out (by simp [Lib.byteCells]; omega) hbw.size).mono ?_
          rintro e w1 ⟨rfl, hB1, hb1⟩
          have HB1 : Hid (Lib.IsBuilder 25 5 w.heap.size w.heap.size (Lib.byteCells ((bs.take (m + 1)).map Wd.ch)) w1) := by
            show Lib.IsBuilder _ _ _ _ _ _
            rw [HE.out]; exact .inr hB1
          clear hB1
          go_wp2_with (fail)
          go_roundg (40 - (m + 1))
          case measure => omega
          case rel =>
            first
            | (refine ⟨m + 1, d + 1, by omega, by omega, by go_num, by go_num, by omega, ?_, HB1.out, hbw.trans hb1⟩
               have hdm2 : (d : Int) = m := by assumption
               have h48 : 48 ≤ (c.toNat : Int) := by assumption
               have h57 : (c.toNat : Int) ≤ 57 := by assumption
               intro x hx
               have hx2 := List.mem_of_mem_take hx
               rw [HT1.out] at hx2
               rcases List.mem_append.1 hx2 with hx2 | hx2
               · exact HD.out x (by rw [List.take_of_length_le (by simp; omega)]; exact hx2)
               · obtain rfl : x = c := by simpa using hx2
                 exact Wd.cls_of_digit _ ⟨by omega, by omega⟩)
            | (refine ⟨m + 1, d, by omega, by omega, by go_num, by first | rfl | exact (congrArg (Value.int .i64) (by assumption : (d : Int) = m)).symm, by omega, ?_, HB1.out, hbw.trans hb1⟩
               intro x hx
               refine HD.out x ?_
               rw [HT1.out, List.take_append_of_le_length (by simp; have := HN.out; omega)] at hx
               exact hx)
      · have hnm : (m < n ∧ ¬ m < 40) ∨ ¬ m < n := by omega
        rcases hnm with ⟨hl1, hl2⟩ | hl1
        all_goals
          go_wp2_with (fail)
          go_meet
          exact ⟨m, d, hmn, by omega, rfl, rfl, hdm, HD, HB.out, hbw⟩
  case rest =>
        clear HB hbw
        obtain ⟨m, d, hmn, hm4, rfl, rfl, hdm, HD, hB, hbw⟩ := hcut
        have HB := Lib.hid hB
        clear hB
        obtain ⟨l, hl⟩ : ∃ l, l = (bs.take m).map Wd.ch := ⟨_, rfl⟩
        rw [← hl] at HB HD
        have hch : Wd.Chars l := by rw [hl]; exact Wd.ch_chars _
        have hll : l.length = m := by have := HN.out; rw [hl]; simp; omega
        have HLL := Lib.hid hll
        have HCHS := Lib.hid hch
        clear hl hll hch
        go_wp2_with (fail)
        refine (Tryd.Builder_String_any w.heap.size w.heap.size l _ HB.out hbw.size).mono ?_
        rintro e w1 ⟨rfl, hb1⟩
        have hbX := hbw.trans hb1
        obtain ⟨x, hx⟩ : ∃ x : ByteArray, x = ⟨l.toArray⟩ := ⟨_, rfl⟩
        rw [← hx]
        have HX : Hid (x.data.toList = l) := by show _ = _; rw [hx]
        have hxs : x.size = m := by rw [hx]; exact HLL.out
        have hsl : ∀ W, (Instr.slice 9 (.string x) (some (.int .i64 (d : Int))) none none).run Tryd.prog W = .ok (.string (x.extract d m)) W := by
          intro W
          rw [run_slice_string_from_if W 9 x .i64 d Tryd.underlying9, if_pos (by omega), hxs]; simp
        have HXS := Lib.hid hxs
        clear hx hxs
        go_upto_region 12 with (fail)
        clear hsl
        go_cut [74] (fun s74 wx => ∃ bb : Bool, s74 = .bool bb ∧ Hid (bb = true → ∃ c r, l.drop d = c :: r ∧ Wd.cls c = 4) ∧ w1 = wx)
        case first =>
          by_cases hdm3 : d < m
          · have hdl : d < l.length := by have := HLL.out; omega
            have hdr : l.drop d = l[d] :: l.drop (d + 1) := List.drop_eq_getElem_cons hdl
            have HDR := Lib.hid hdr
            have hed : (x.extract d m).data.toList = l[d] :: l.drop (d + 1) := by rw [← HLL.out, extract_list x l HX.out, hdr]
            have hx1 : 0 < min m x.size - d := by have := HXS.out; omega
            have hx0 : ∀ h, (x.extract d m)[0]'h = l[d] := by
              intro h
              have hlen : 0 < (x.extract d m).data.toList.length := by rw [hed]; exact Nat.zero_lt_succ _
              have h2 : (x.extract d m)[0]'h = (x.extract d m).data.toList[0]'hlen := rfl
              rw [h2]; simp only [hed]; rfl
            have hne2 : ¬ (x.extract d m).toList = [] := by rw [Lib.toList_data, hed]; exact List.cons_ne_nil _ _
            have hne : (x.extract d m).toList.isEmpty = false := by rw [Lib.toList_data, hed]; rfl
            clear hdr hed
            go_wp2_with (fail)
            · go_meet
              refine ⟨_, rfl, ?_, rfl⟩
              intro hb2
              exact ⟨_, _, HDR.out, cls_four _ (HCHS.out _ (List.getElem_mem _)) (by simpa using hb2)⟩
            · go_meet
              refine ⟨_, rfl, ?_, rfl⟩
              intro hb2
              exact ⟨_, _, HDR.out, cls_four _ (HCHS.out _ (List.getElem_mem _)) (by first | exact .inl (by assumption) | simpa using hb2)⟩
          · have he : (x.extract d m).toList = [] := by rw [Lib.toList_data, ← HLL.out, extract_list x l HX.out]; simp; have := HLL.out; omega
            have hdm4 : d = m := by omega
            have HDM := Lib.hid hdm4
            clear hdm4
            go_wp2_with (fail)
            go_meet
            refine ⟨_, rfl, ?_, rfl⟩
            intro hb2
            simp at hb2
        case rest =>
          obtain ⟨bb, rfl, HBB, rfl⟩ := hcut
          have hx40 : x.size ≤ 16384 := by have := HXS.out; omega
          go_upto_if 74 with (fail)
          go_cut [] (fun wx => Below w.heap.size w wx)
          case first =>
            rcases bb with _ | _
            · go_wp2_with (fail)
              go_meet
              exact hbX
            · obtain ⟨c, r, hcr, h4⟩ := HBB.out rfl
              have hne := Wd.next_name l HCHS.out d c r hcr h4
              have hres : x.extract d m = ⟨(c :: r).toArray⟩ := by
                rw [← bytes_mk (x.extract d m), ← HLL.out, extract_list x l HX.out, hcr]
              have hdn : d < m := by have := HLL.out; rcases Nat.lt_or_ge d l.length with h | h; omega; simp [List.drop_of_length_le h] at hcr
              rcases hk : Wd.isKey (c :: r) with _ | _
              · have HN2 : Hid (nextV (Wd.next x.data.toList (d : Int).toNat) = .tuple #[.agg #[.int .u8 2, .string (x.extract d m), .int .i64 0, .int .i64 1, .int .i64 d, .int .i64 m], .agg #[.int .i64 0, .int .i64 0]]) := by
                  show _ = _
                  rw [HX.out, show (d : Int).toNat = d by omega, hne, hk, hres, HLL.out]; rfl
                have hxm : ((m : Int) != (x.size : Int)) = false := by rw [HXS.out]; simp
                clear hne hres hcr
                go_wp2_with (fail)
                refine (next_any _ _ _ hx40 (by omega) (by have := HXS.out; omega) (hsh.below hbX)).mono ?_
                rintro e w3 ⟨rfl, hb3⟩
                have hbM := hbX.trans (hb3.mono hbX.size)
                rw [HN2.out]
                go_wp2_with (fail)
                go_meet
                exact (hbM.alloc hbM.size _).alloc (by have := hbM.size; simp; omega) _
              · have HN2 : Hid (nextV (Wd.next x.data.toList (d : Int).toNat) = .tuple #[.agg #[.int .u8 3, .string (x.extract d m), .int .i64 0, .int .i64 1, .int .i64 d, .int .i64 m], .agg #[.int .i64 0, .int .i64 0]]) := by
                  show _ = _
                  rw [HX.out, show (d : Int).toNat = d by omega, hne, hk, hres, HLL.out]; rfl
                have hxm : ((m : Int) != (x.size : Int)) = false := by rw [HXS.out]; simp
                clear hne hres hcr
                go_wp2_with (fail)
                refine (next_any _ _ _ hx40 (by omega) (by have := HXS.out; omega) (hsh.below hbX)).mono ?_
                rintro e w3 ⟨rfl, hb3⟩
                have hbM := hbX.trans (hb3.mono hbX.size)
                rw [HN2.out]
                go_wp2_with (fail)
                go_meet
                exact (hbM.alloc hbM.size _).alloc (by have := hbM.size; simp; omega) _
          case rest =>
            have hbR1 : Below w.heap.size w wc := hcut
            have hdl : d ≤ l.length := by have := HLL.out; omega
            go_upto_if 114 with (fail)
            go_cut [] (fun wx => Below w.heap.size w wx)
            case first =>
              by_cases hd0 : 0 < d
              · rcases Wd.next_int l d hd0 HD.out hdl with ⟨line, he⟩ | ⟨v, line, fin, he, hfin⟩
                · have HN2 : Hid (nextV (Wd.next x.data.toList (0 : Int).toNat) = .tuple #[.agg #[.int .u8 0, .string ⟨#[]⟩, .int .i64 0, .int .i64 0, .int .i64 0, .int .i64 0], .agg #[.int .i64 100, .int .i64 line]]) := by
                    show _ = _
                    rw [HX.out, show (0 : Int).toNat = 0 from rfl, he]; rfl
                  clear he
                  go_wp2_with (fail)
                  refine (next_any _ _ _ hx40 (by omega) (Int.natCast_nonneg _) (hsh.below hbR1)).mono ?_
                  rintro e w3 ⟨rfl, hb3⟩
                  have hbM := hbR1.trans (hb3.mono hbR1.size)
                  rw [HN2.out]
                  go_wp2_with (fail)
                  go_meet
                  exact (hbM.alloc hbM.size _).alloc (by have := hbM.size; simp; omega) _
                · have HN2 : Hid (nextV (Wd.next x.data.toList (0 : Int).toNat) = .tuple #[.agg #[.int .u8 1, .string ⟨#[]⟩, .int .i64 v, .int .i64 line, .int .i64 0, .int .i64 fin], .agg #[.int .i64 0, .int .i64 0]]) := by
                    show _ = _
                    rw [HX.out, show (0 : Int).toNat = 0 from rfl, he]; rfl
                  clear he
                  go_wp2_with (fail)
                  refine (next_any _ _ _ hx40 (by omega) (Int.natCast_nonneg _) (hsh.below hbR1)).mono ?_
                  rintro e w3 ⟨rfl, hb3⟩
                  have hbM := hbR1.trans (hb3.mono hbR1.size)
                  rw [HN2.out]
                  have hfin2 : decide ((fin : Int) < d) = false := by simp; omega
                  go_wp2_with (fail)
                  go_meet
                  exact (hbM.alloc hbM.size _).alloc (by have := hbM.size; simp; omega) _
              · go_wp2_with (fail)
                go_meet
                exact hbR1
            case rest =>
              have hbR : Below w.heap.size w wc := hcut
              go_wp2_with (fail)
              refine (fields_keys wc (tabIs_below HT.out hbR)).mono ?_
              rintro e w5 ⟨rfl, rfl⟩
              have hbF := hbR.alloc hbR.size keyObj
              have hz5 : w.heap.size ≤ (wc.alloc keyObj).heap.size := hbF.size
              have hKC := Lib.hid (keyObj_cell wc)
              obtain ⟨KB, hKB⟩ : ∃ KB, KB = wc.heap.size := ⟨_, rfl⟩
              rw [← hKB] at hKC ⊢
              have hKB2 : KB < (wc.alloc keyObj).heap.size := by rw [hKB]; simp
              clear hKB
              generalize wc.alloc keyObj = w5 at *
              go_wp2_with (fail)
              refine (pick_any which 37 _ (by omega) (by omega) hwh).mono ?_
              rintro e w6 ⟨rfl, rfl⟩
              obtain ⟨i, hi⟩ : ∃ i : Nat, which % 37 = (i : Int) := ⟨(which % 37).toNat, (Int.toNat_of_nonneg (Int.emod_nonneg _ (by omega))).symm⟩
              have hi37 : i < 37 := by have := Int.emod_lt_of_pos which (show 0 < (37 : Int) by omega); omega
              rw [hi]
              have hil : i < Wd.keyList.length := by rw [Wd.keys_many]; exact hi37
              obtain ⟨f1, f2, f3, f4⟩ := key_facts i hil
              obtain ⟨K, hK⟩ : ∃ K : ByteArray, K = ⟨(Wd.keyList[i]).toArray⟩ := ⟨_, rfl⟩
              have hcK := hKC.out i hil
              rw [← hK] at hcK
              have HKL : Hid (K.data.toList = Wd.keyList[i]) := by show _ = _; rw [hK]
              have hKs : K.size = (Wd.keyList[i]).length := by rw [← HKL.out]; simp
              have HKS := Lib.hid hKs
              have HF3 := Lib.hid f3
              have HF4 := Lib.hid f4
              have hKs1 : 2 ≤ K.size := by omega
              have hKs2 : K.size ≤ 20 := by omega
              clear hi hK hKs f1 f2 f3 f4
              go_wp2_with (fail)
              refine (is_yes K 0 _ _ _ _ _ _ _ (by omega) (by omega) (by omega) (hsh.below hbF) (by rw [show (0 : Int).toNat = 0 from rfl, HKL.out, HF3.out, ← HKS.out]; simp only [nextV, tokV, faultV, ← HKL.out, bytes_mk]; rfl)).mono ?_
              rintro e w7 ⟨rfl, hb7⟩
              have hb7' := hbF.trans (hb7.mono hbF.size)
              obtain ⟨K1, hK1⟩ : ∃ K1, K1 = K.extract 0 1 := ⟨_, rfl⟩
              obtain ⟨K2, hK2⟩ : ∃ K2, K2 = K.extract 1 K.size := ⟨_, rfl⟩
              have HK1 : Hid (K1.data.toList = (Wd.keyList[i]).take 1) := by
                show _ = _
                rw [hK1, ByteArray.data_extract, Array.toList_extract, List.extract_eq_take_drop, HKL.out]; rfl
              have HK2 : Hid (K2.data.toList = (Wd.keyList[i]).drop 1) := by
                show _ = _
                rw [hK2, drop_list, HKL.out]
              have hs1 : ∀ W, (Instr.slice 9 (.string K) (some (.int .i64 1)) none none).run Tryd.prog W = .ok (.string K2) W := by
                intro W
                rw [run_slice_string_from_if W 9 K .i64 1 Tryd.underlying9, if_pos (by omega), hK2]; rfl
              have hs2 : ∀ W, (Instr.slice 9 (.string K) none (some (.int .i64 1)) none).run Tryd.prog W = .ok (.string K1) W := by
                intro W
                rw [run_slice_string_to_if W 9 K .i64 1 Tryd.underlying9, if_pos (by omega), hK1]; rfl
              have hK1s : K1.size ≤ 20 := by
                have h1 : K1.data.toList.length = K1.size := by simp
                rw [HK1.out] at h1; simp at h1; omega
              have hK2s : K2.size ≤ 20 := by
                have h1 : K2.data.toList.length = K2.size := by simp
                rw [HK2.out] at h1
                have := HKS.out
                simp at h1; omega
              obtain ⟨U, hU⟩ : ∃ U : ByteArray, U = ⟨(Lib.toUpperA K1.data.toList).toArray⟩ := ⟨_, rfl⟩
              have HTU : ∀ W, Calls Tryd.prog 14 #[.string K1] W fun e w' => e = .returned (.string U) ∧ Below W.heap.size W w' := by
                intro W
                rw [hU]
                refine Tryd.strings_ToUpper_ascii K1 W (by omega) ?_
                intro j b hb
                rw [HK1.out] at hb
                exact HF4.out b (List.mem_of_mem_take (List.mem_of_getElem? hb))
              have hUs : U.size ≤ 20 := by
                have h1 : U.size = K1.size := by
                  rw [hU]
                  show (Lib.toUpperA K1.data.toList).toArray.size = K1.size
                  simp [Lib.toUpperA]
                omega
              obtain ⟨O0, hO0⟩ : ∃ O0 : ByteArray, O0 = K ++ ⟨#[115]⟩ := ⟨_, rfl⟩
              obtain ⟨O2, hO2⟩ : ∃ O2 : ByteArray, O2 = U ++ K2 := ⟨_, rfl⟩
              have ha1 : ∀ W, (Op.stringOp .add K ⟨#[115]⟩).run Tryd.prog W = .ok (.string O0) W := by
                intro W; rw [hO0]; exact run_string_add_sum W _ _ (by show K.size + 1 ≤ _; omega)
              have ha2 : ∀ W, (Op.stringOp .add U K2).run Tryd.prog W = .ok (.string O2) W := by
                intro W; rw [hO2]; exact run_string_add_sum W _ _ (by omega)
              have HO0 : Hid (O0.data.toList = Wd.other Wd.keyList[i] 0) := by
                show _ = _
                rw [hO0, ByteArray.data_append, Array.toList_append, HKL.out]; rfl
              have HO1 : Hid (K2.data.toList = Wd.other Wd.keyList[i] 1) := by
                show _ = _
                rw [HK2.out]; rfl
              have HO2 : Hid (O2.data.toList = Wd.other Wd.keyList[i] 2) := by
                show _ = _
                rw [hO2, ByteArray.data_append, Array.toList_append, hU, HK1.out, HK2.out]; rfl
              have hO0s : O0.size ≤ 40 := by rw [hO0, ByteArray.size_append]; have : (⟨#[115]⟩ : ByteArray).size = 1 := rfl; omega
              have hO2s : O2.size ≤ 40 := by rw [hO2, ByteArray.size_append]; omega
              have HTU2 := Lib.hid HTU
              clear hK1 hK2 hU hO0 hO2 HTU
              have htm : change.tmod 3 = change % 3 := Int.tmod_eq_emod_of_nonneg hch0.1
              have hj : change.tmod 3 = 0 ∨ change.tmod 3 = 1 ∨ change.tmod 3 = 2 := by omega
              clear htm
              go_upto_region 24 with (fail)
              go_cut [19] (fun s19 wx => ∃ (j : Nat) (O : ByteArray), j < 3 ∧ s19 = .string O ∧ O.size ≤ 40 ∧ Hid (O.data.toList = Wd.other Wd.keyList[i] j) ∧ Below w5.heap.size w5 wx)
              case first =>
                rcases hj with hj | hj | hj
                · have hix : ∀ W, (Instr.index 47 (.agg #[.string O0, .string K2, .string O2]) (.int .u8 (change.tmod 3))).run Tryd.prog W = .ok (.string O0) W := fun _ => by rw [hj]; kernel_rfl
                  clear hj
                  go_region_with ((go_at_call 14; refine (HTU2.out _).mono ?_; rintro e w8 ⟨rfl, hb8⟩))
                  all_goals go_wp2_with fail
                  all_goals go_meet
                  all_goals exact ⟨0, O0, by omega, rfl, by omega, HO0, hb7.trans (((Drawn.refl _).drew.below _).trans (hb8.mono (by have := hb7.size; simpa using this)))⟩
                · have hix : ∀ W, (Instr.index 47 (.agg #[.string O0, .string K2, .string O2]) (.int .u8 (change.tmod 3))).run Tryd.prog W = .ok (.string K2) W := fun _ => by rw [hj]; kernel_rfl
                  clear hj
                  go_region_with ((go_at_call 14; refine (HTU2.out _).mono ?_; rintro e w8 ⟨rfl, hb8⟩))
                  all_goals go_wp2_with fail
                  all_goals go_meet
                  all_goals exact ⟨1, K2, by omega, rfl, by omega, HO1, hb7.trans (((Drawn.refl _).drew.below _).trans (hb8.mono (by have := hb7.size; simpa using this)))⟩
                · have hix : ∀ W, (Instr.index 47 (.agg #[.string O0, .string K2, .string O2]) (.int .u8 (change.tmod 3))).run Tryd.prog W = .ok (.string O2) W := fun _ => by rw [hj]; kernel_rfl
                  clear hj
                  go_region_with ((go_at_call 14; refine (HTU2.out _).mono ?_; rintro e w8 ⟨rfl, hb8⟩))
                  all_goals go_wp2_with fail
                  all_goals go_meet
                  all_goals exact ⟨2, O2, by omega, rfl, by omega, HO2, hb7.trans (((Drawn.refl _).drew.below _).trans (hb8.mono (by have := hb7.size; simpa using this)))⟩
              case rest =>
                obtain ⟨j, O, hj3, rfl, hOs, HO, hbC⟩ := hcut
                clear hs1 hs2 ha1 ha2 hj
                have hof := other_facts i hil j hj3
                obtain ⟨wt, hwt⟩ : ∃ wt : Nat, wt = if Wd.keyList.contains (Wd.other Wd.keyList[i] j) then 3 else 2 := ⟨_, rfl⟩
                rw [← hwt, ← HO.out] at hof
                have HOF := Lib.hid hof
                have HWT := Lib.hid hwt
                clear hof hwt
                have HKC2 : Hid (∀ q (h : q < Wd.keyList.length), wc.cell? ⟨KB, q, none⟩ = some (.string ⟨(Wd.keyList[q]).toArray⟩)) := fun q h => (hbC.cell (p := ⟨KB, q, none⟩) hKB2).trans (hKC.out q h)
                have hbZ := hbF.trans (hbC.mono hz5)
                clear hKC
                go_wp2_with (fail)
                go_loopg [20, 165] 37 (fun k p q wr => wr = wc ∧ ∃ (m : Nat) (v : Nat), k + m = 37 ∧ q = .int .i64 m ∧ p = .int .u8 v ∧ Hid (v = if (Wd.keyList.take m).contains (O.data.toList) then 3 else 2))
                case atStart => exact ⟨rfl, 0, 2, rfl, rfl, rfl, rfl⟩
                case round =>
                  obtain ⟨rfl, m', v, hk', rfl, rfl, HV⟩ := hrel
                  by_cases hlt' : m' < 37
                  · have hml : m' < Wd.keyList.length := by rw [Wd.keys_many]; exact hlt'
                    obtain ⟨Q, hQ⟩ : ∃ Q : ByteArray, Q = ⟨(Wd.keyList[m']).toArray⟩ := ⟨_, rfl⟩
                    have hcQ := HKC2.out m' hml
                    rw [← hQ] at hcQ
                    have HQ : Hid (Q.data.toList = Wd.keyList[m']) := by show _ = _; rw [hQ]
                    clear hQ
                    have HTK : Hid ((Wd.keyList.take (m' + 1)).contains O.data.toList = ((Wd.keyList.take m').contains O.data.toList || (Q.toList == O.toList))) := by
                      show _ = _
                      rw [List.take_succ_eq_append_getElem hml, Lib.toList_data, Lib.toList_data, HQ.out]
                      simp only [List.contains_eq_any_beq, List.any_append, List.any_cons, List.any_nil, Bool.or_false]
                      congr 1
                      rw [Bool.eq_iff_iff, beq_iff_eq, beq_iff_eq]; exact ⟨Eq.symm, Eq.symm⟩
                    rcases hcmp : (Q.toList == O.toList) with _ | _
                    · have hne3 : ¬ Q.toList = O.toList := by simpa using hcmp
                      go_wp2_with (fail)
                      go_roundg (37 - (m' + 1))
                      case measure => omega
                      case rel =>
                        refine ⟨rfl, m' + 1, v, by omega, by go_num, rfl, ?_⟩
                        show _ = _
                        rw [HTK.out, hcmp, Bool.or_false]; exact HV.out
                    · have heq3 : Q.toList = O.toList := by simpa using hcmp
                      have HQ3 := Lib.hid heq3
                      clear heq3
                      go_wp2_with (fail)
                      go_roundg (37 - (m' + 1))
                      case measure => omega
                      case rel =>
                        refine ⟨rfl, m' + 1, 3, by omega, by go_num, rfl, ?_⟩
                        show _ = _
                        rw [HTK.out, hcmp, Bool.or_true]; rfl
                  · obtain rfl : m' = 37 := by omega
                    have hv2 : v = wt := by
                      rw [HV.out, HWT.out, List.take_of_length_le (by rw [Wd.keys_many]; omega), HO.out]
                    subst hv2
                    go_wp2_with (fail)
                    refine (is_yes O 0 _ _ _ _ _ _ _ (by omega) (by omega) (Int.natCast_nonneg _) (hsh.below hbZ) (by rw [show (0 : Int).toNat = 0 from rfl, HOF.out]; simp only [nextV, tokV, faultV, bytes_mk]; simp)).mono ?_
                    rintro e w9 ⟨rfl, hb9⟩
                    have hb9' := hbZ.trans (hb9.mono hbZ.size)
                    go_wp2_with (fail)
                    refine (awake_any _ (hsh.below hb9')).mono ?_
                    rintro e w10 ⟨rfl, hb10⟩
                    go_wp2_with (fail)
                    go_ret
                    exact ⟨rfl, hb9'.trans (hb10.mono hb9'.size)⟩
end Go.Proofs.YtedcdlofjemchaaDoor
