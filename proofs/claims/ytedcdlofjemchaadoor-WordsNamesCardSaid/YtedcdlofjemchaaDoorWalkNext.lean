/- The walk of words.Next. -/
import Derived.Test.YtedcdlofjemchaaDoorWalkClasses
import Derived.Test.YtedcdlofjemchaaDoorWalkNumber
import Derived.ChangeAgain
namespace Go.Proofs.YtedcdlofjemchaaDoor
open Go.RowKit
set_option linter.unusedVariables false
set_option linter.unusedSimpArgs false

/-- The package's variables are of their shapes. -/
def Sh (w : World) : Prop := w.ShapedOpen Tryd.prog
theorem Sh.below {w w' : World} (h : Sh w) (hb : Below w.heap.size w w') : Sh w' :=
  World.ShapedOpen.keptBut (may := fun _ => False) h (hb.frame _) (fun _ hf => hf.elim)
theorem Drawn.below {w w' : World} (h : Drawn w w') (B : Nat) : Below B w w' := by
  obtain ⟨k, rfl⟩ := h
  exact ⟨rfl, rfl, rfl, Nat.le_refl _, fun _ _ => rfl⟩

def tokV (t : Wd.Tok) : Value := .agg #[.int .u8 t.kind, .string ⟨t.s.toArray⟩, .int .i64 t.n, .int .i64 t.line, .int .i64 t.pos, .int .i64 t.fin]
def noTok : Wd.Tok := ⟨0, [], 0, 0, 0, 0⟩
def faultV (e : Int) (line : Nat) : Value := .agg #[.int .i64 e, .int .i64 line]
def nextV (r : Except Nat Wd.Tok) : Value := match r with
  | .ok t => .tuple #[tokV t, faultV 0 0]
  | .error line => .tuple #[tokV noTok, faultV 100 line]

def clsTab : Array Value := tab fun j => Wd.cls j.toUInt8
theorem clsTab_eq : Value.agg (tab fun j => Wd.cls j.toUInt8) = Value.agg clsTab := rfl
theorem clsTab_info : (Tryd.prog.info? 57).map (·.size) = some clsTab.size := by unfold clsTab; rw [tab_size]; kernel_rfl
theorem clsTab_old : (Tryd.zeroCells57).size = clsTab.size := by unfold clsTab; rw [tab_size]; kernel_rfl
theorem clsTab_one : clsTab.all (·.oneCell') = true := tab_one _
theorem bcell2 {B : Nat} {W w1 : World} (hb : Below B W w1) : (∀ b o, b < B → w1.cell? ⟨b, o, none⟩ = W.cell? ⟨b, o, none⟩) ∧ (∀ b o, b < B → w1.frozen? ⟨b, o, none⟩ = W.frozen? ⟨b, o, none⟩) :=
  ⟨fun b o h => hb.cell (p := ⟨b, o, none⟩) h, fun b o h => hb.frozen (p := ⟨b, o, none⟩) h⟩

set_option maxRecDepth 100000 in
theorem next_long (s : ByteArray) (n : Int) (w : World) (h : 16384 < s.size) :
    Calls Tryd.prog 9 #[.string s, .int .i64 n] w fun e w' => e = .returned (.tuple #[tokV noTok, faultV 3 0]) ∧ Below w.heap.size w w' := by
  go_enter Tryd.func9, Tryd.ntmps9
  go_wp2_with (fail)
  refine bodyPost_ret (v := .tuple #[tokV noTok, faultV 3 0]) (by simp [results, Tryd.results9, go_sem, tokV, faultV, noTok]) rfl ⟨rfl, ?_⟩
  exact ((Below.refl _ _).alloc (Nat.le_refl _) _).alloc (by simp) _

set_option maxRecDepth 100000 in
theorem next_arg (s : ByteArray) (n : Int) (w : World) (h : s.size ≤ 16384) (hn : n < 0 ∨ s.size < n) :
    Calls Tryd.prog 9 #[.string s, .int .i64 n] w fun e w' => e = .returned (.tuple #[tokV noTok, faultV 2 0]) ∧ Below w.heap.size w w' := by
  rcases hn with hn | hn
  · go_enter Tryd.func9, Tryd.ntmps9
    go_wp2_with (fail)
    refine bodyPost_ret (v := .tuple #[tokV noTok, faultV 2 0]) (by simp [results, Tryd.results9, go_sem, tokV, faultV, noTok]) rfl ⟨rfl, ?_⟩
    exact ((Below.refl _ _).alloc (Nat.le_refl _) _).alloc (by simp) _
  · have h0 : ¬ n < 0 := by omega
    have h1 : (n < 0) = False := by simp; omega
    go_enter Tryd.func9, Tryd.ntmps9
    go_wp2_with (fail)
    refine bodyPost_ret (v := .tuple #[tokV noTok, faultV 2 0]) (by simp [results, Tryd.results9, go_sem, tokV, faultV, noTok]) rfl ⟨rfl, ?_⟩
    exact ((Below.refl _ _).alloc (Nat.le_refl _) _).alloc (by simp) _

theorem table_set (w : World) : Table ((w.alloc (.cells Tryd.zeroCells57 57)).setRow w.heap.size clsTab) w.heap.size := by
  have h : Tab ((w.alloc (.cells Tryd.zeroCells57 57)).setRow w.heap.size clsTab) w.heap.size (fun j => Wd.cls j.toUInt8) := setRow_heap _ _ _ _ _ _ (heap_alloc_new _ _)
  exact fun c hc => h.cell c hc
theorem below_set (w : World) (o : Obj) (cs : Array Value) : Below w.heap.size w ((w.alloc o).setRow w.heap.size cs) :=
  ⟨rfl, rfl, rfl, by simp, fun k hk => by rw [setRow_other _ _ _ _ (by omega)]; exact Below.heap_alloc _ _ _ hk⟩
theorem below_alloc1 (w : World) (o : Obj) : Below w.heap.size w (w.alloc o) := (Below.refl _ _).alloc (Nat.le_refl _) o
theorem bytes_mk (x : ByteArray) : (⟨x.data.toList.toArray⟩ : ByteArray) = x := by cases x; simp
theorem below_up {B : Nat} {a b c : World} (h : Below B a b) (hB : B ≤ b.heap.size) (k : Below b.heap.size b c) : Below B a c := h.trans (k.mono hB)

set_option maxHeartbeats 8000000 in
set_option maxRecDepth 100000 in
theorem next_in (s : ByteArray) (n : Nat) (w : World) (h : s.size ≤ 16384) (hn : n ≤ s.size) (hsh : Sh w) :
    Calls Tryd.prog 9 #[.string s, .int .i64 n] w fun e w' => e = .returned (nextV (Wd.next s.data.toList n)) ∧ Below w.heap.size w w' := by
  have h2 : s.size ≤ 9223372036854775807 := by omega
  go_enter Tryd.func9, Tryd.ntmps9
  go_wp2_with (fail)
  refine (classes_any _).mono ?_
  rintro e w1 ⟨rfl, hb1⟩
  rw [clsTab_eq]
  have hz1 : w.heap.size + 2 ≤ w1.heap.size := by have := hb1.size; simp at this; omega
  go_wp2_with (refine wpList_store_row rfl 57 _ _ rfl w1.heap.size clsTab rfl rfl 57 _ (heap_alloc_new _ _) clsTab_info (clsTab_old) clsTab_one ?_)
  refine (begins_any w1.heap.size s n _ h hn (table_set w1)).mono ?_
  have HT := Lib.hid (table_set w1)
  have hb2 := below_up (hb1.mono (B' := w.heap.size + 2) (by simp)) hz1 (below_set w1 (.cells Tryd.zeroCells57 57) clsTab)
  generalize ((w1.alloc (.cells Tryd.zeroCells57 57)).setRow w1.heap.size clsTab) = w2 at *
  rintro e w3 ⟨rfl, hd⟩
  have hb3 := hb2.trans (hd.below _)
  have HT3 : Hid (Table w3 w1.heap.size) := fun c hc => (hd.cell _).trans (HT.out c hc)
  have hw1 : Hid (w1.heap.size < w3.heap.size) := by
    have h0 := HT3.out 0 (by omega)
    exact World.block_lt_of_cell? w3 _ h0
  clear HT hb1 hb2 hd
  obtain ⟨a, ha⟩ : ∃ a, a = n + Wd.skip false (s.data.toList.drop n) := ⟨_, rfl⟩
  rw [← ha]
  have ha2 : a ≤ s.size := by have := Wd.skip_le false (s.data.toList.drop n); simp at this; omega
  have HN : Hid (Wd.next s.data.toList n = Wd.tokAt s.data.toList a) := by show _ = _; rw [ha]; rfl
  clear ha
  obtain ⟨hc3, hf3⟩ := bcell2 hb3
  have hz3 : w.heap.size < w3.heap.size := by have := hb3.size; simp at this; omega
  have hz4 : w.heap.size + 1 < w3.heap.size := by have := hb3.size; simp at this; omega
  go_wp2_with (fail)
  refine (Tryd.strings_Count_one _ 10 _).mono ?_
  rintro e w4 ⟨rfl, rfl⟩
  have hl0 : Lib.countByte (s.extract 0 a).data.toList 10 ≤ s.size := by
    unfold Lib.countByte
    have h1 := List.count_le_length (a := (10 : UInt8)) (l := (s.extract 0 a).data.toList)
    have h2 : (s.extract 0 a).data.toList.length = (s.extract 0 a).size := by simp
    have h3 : (s.extract 0 a).size = min a s.size - 0 := ByteArray.size_extract
    omega
  have HL : Hid (Lib.countByte (s.extract 0 a).data.toList 10 + 1 = Wd.lineOf s.data.toList a) := by
    show _ = _
    unfold Lib.countByte Wd.lineOf
    rw [ByteArray.data_extract]; simp
  generalize Lib.countByte (s.extract 0 a).data.toList 10 = ln at *
  have hbw : Below w.heap.size w w4 := (((Below.refl _ _).alloc (Nat.le_refl _) _).alloc (by simp) _).trans (hb3.mono (by simp))
  by_cases heof : a = s.size
  · have heof' : ((a : Int) == (s.size : Int)) = true := by simp [heof]
    have HF : Hid (nextV (Wd.next s.data.toList n) = .tuple #[.agg #[.int .u8 5, .string ⟨#[]⟩, .int .i64 0, .int .i64 (ln + 1), .int .i64 a, .int .i64 a], .agg #[.int .i64 0, .int .i64 0]]) := by
      show _ = _
      rw [HN.out, Wd.tokAt, List.drop_of_length_le (by simp [heof])]
      simp [nextV, tokV, faultV, ← HL.out]
    clear heof
    go_wp2_with (fail)
    rw [HF.out]
    refine bodyPost_ret (v := .tuple #[.agg #[.int .u8 5, .string ⟨#[]⟩, .int .i64 0, .int .i64 (ln + 1), .int .i64 a, .int .i64 a], .agg #[.int .i64 0, .int .i64 0]]) (by simp [results, Tryd.results9, go_sem, hz3, hz4, hc3]) rfl ⟨rfl, ?_⟩
    repeat (first | (with_reducible exact hbw) | (with_reducible refine Below.setCell ?_ ?_ _) | (with_reducible refine Below.alloc ?_ ?_ _))
    all_goals (simp only [World.size_setCell]; omega)
  · have heof' : ((a : Int) == (s.size : Int)) = false := beq_eq_false_iff_ne.2 (fun e => heof (Int.ofNat.inj e))
    have hlt : a < s.size := by omega
    clear heof
    go_wp2_with (fail)
    refine (ends_any w1.heap.size s a _ h hlt (by intro c hc; rw [(below_alloc1 w4 _).cell (hw1.out)]; exact HT3.out c hc)).mono ?_
    rintro e w5 ⟨rfl, hd5⟩
    have hb5 := (hd5.below (w4.heap.size + 1))
    obtain ⟨hc5, hf5⟩ := bcell2 hb5
    have hz5 : w4.heap.size < w5.heap.size := by have := hb5.size; simp at this; omega
    have hz6 : w.heap.size < w5.heap.size := by omega
    have hz7 : w.heap.size + 1 < w5.heap.size := by omega
    have hw12 : w1.heap.size < w4.heap.size := hw1.out
    have HD : Hid (s.data.toList.drop a = s[a] :: s.data.toList.drop (a + 1)) := List.drop_eq_getElem_cons (l := s.data.toList) (i := a) (by simpa using hlt)
    have hk0 : Wd.tok (s.data.toList.drop a) ≤ s.size - a := by have := Wd.tok_le (s.data.toList.drop a); simpa using this
    have hk1 : 0 < Wd.tok (s.data.toList.drop a) := by rw [HD.out]; exact Wd.tok_pos _ _
    obtain ⟨k, hk⟩ : ∃ k, k = Wd.tok (s.data.toList.drop a) := ⟨_, rfl⟩
    rw [← hk]
    rw [← hk] at hk0 hk1
    have HK := Lib.hid hk
    clear hk
    have hx1 : 0 < min (a + k) s.size - a := by omega
    have hx0 : ∀ h, (s.extract a (a + k))[0]'h = s[a] := fun h => by rw [ByteArray.getElem_extract]; rfl
    have hct : w4.cell? ⟨w1.heap.size, s[a].toNat, none⟩ = some (.int .u8 (Wd.cls s[a])) := by have := HT3.out s[a].toNat (UInt8.toNat_lt _); simpa using this
    have hb : s[a].toNat < 256 := UInt8.toNat_lt _
    have HX : Hid ((s.extract a (a + k)).data.toList = (s.data.toList.drop a).take k) := by
      show _ = _
      rw [ByteArray.data_extract, Array.toList_extract, List.extract_eq_take_drop, show a + k - a = k by omega]
    have hy1 : w.heap.size < w4.heap.size + 1 := by omega
    have hy2 : w.heap.size ≤ w4.heap.size := by omega
    have hbw5 : Below w.heap.size w w5 := (hbw.alloc (by omega) _).trans (hb5.mono (by omega))
    have HA : Hid (Wd.next s.data.toList n = Wd.tokAt s.data.toList a) := HN
    have HK2 : Hid (Wd.tok (s[a] :: s.data.toList.drop (a + 1)) = k) := by
      show _ = _
      rw [HK.out, HD.out]
    have HS : Hid ((s[a] :: s.data.toList.drop (a + 1)).take k = (s.extract a (a + k)).data.toList) := by
      show _ = _
      rw [HX.out, HD.out]
    have hsh5 : Sh w5 := hsh.below hbw5
    rcases h3 : ((Wd.cls s[a] : Int) == 3) with _ | _
    · rcases h4 : ((Wd.cls s[a] : Int) == 4) with _ | _
      · rcases h5 : ((Wd.cls s[a] : Int) == 5) with _ | _
        · have HF : Hid (nextV (Wd.next s.data.toList n) = .tuple #[.agg #[.int .u8 0, .string ⟨#[]⟩, .int .i64 0, .int .i64 0, .int .i64 0, .int .i64 0], .agg #[.int .i64 100, .int .i64 (ln + 1)]]) := by
            show _ = _
            rw [HN.out, Wd.tokAt_odd HD.out (nat_ne h3) (nat_ne h4) (nat_ne h5), ← HL.out]; rfl
          go_wp2_with (fail)
          go_region
          all_goals go_wp2_with (fail)
          rw [HF.out]
          refine bodyPost_ret (v := .tuple #[.agg #[.int .u8 0, .string ⟨#[]⟩, .int .i64 0, .int .i64 0, .int .i64 0, .int .i64 0], .agg #[.int .i64 100, .int .i64 (ln + 1)]]) (by simp [results, Tryd.results9, go_sem, hz3, hz4, hz5, hz6, hz7, hy1, hy2, hc5, hc3]) rfl ⟨rfl, ?_⟩
          repeat (first | (with_reducible exact hbw5) | (with_reducible refine Below.setCell ?_ ?_ _) | (with_reducible refine Below.drew ?_) | (with_reducible refine Below.alloc ?_ ?_ _))
          all_goals (simp only [World.size_setCell]; omega)
        · rcases he : ((s.extract a (a + k)).toList == [61]) with _ | _
          · have HF : Hid (nextV (Wd.next s.data.toList n) = .tuple #[.agg #[.int .u8 4, .string (s.extract a (a + k)), .int .i64 0, .int .i64 (ln + 1), .int .i64 a, .int .i64 (a + k)], .agg #[.int .i64 0, .int .i64 0]]) := by
              show _ = _
              have he2 : ¬ (s.extract a (a + k)).data.toList = [61] := by rw [← Lib.toList_data]; simpa using he
              rw [HN.out, Wd.tokAt_sign HD.out HK2.out HS.out (nat_eq h5), if_neg he2, ← HL.out]
              simp only [nextV, tokV, faultV, bytes_mk, Int.natCast_add]; rfl
            go_wp2_with (fail)
            rw [HF.out]
            refine bodyPost_ret (v := .tuple #[.agg #[.int .u8 4, .string (s.extract a (a + k)), .int .i64 0, .int .i64 (ln + 1), .int .i64 a, .int .i64 (a + k)], .agg #[.int .i64 0, .int .i64 0]]) (by simp [results, Tryd.results9, go_sem, hz3, hz4, hz5, hz6, hz7, hy1, hy2, hc5, hc3]) rfl ⟨rfl, ?_⟩
            repeat (first | (with_reducible exact hbw5) | (with_reducible refine Below.setCell ?_ ?_ _) | (with_reducible refine Below.drew ?_) | (with_reducible refine Below.alloc ?_ ?_ _))
            all_goals (simp only [World.size_setCell]; omega)
          · have HF : Hid (nextV (Wd.next s.data.toList n) = .tuple #[.agg #[.int .u8 0, .string ⟨#[]⟩, .int .i64 0, .int .i64 0, .int .i64 0, .int .i64 0], .agg #[.int .i64 100, .int .i64 (ln + 1)]]) := by
              show _ = _
              have he2 : (s.extract a (a + k)).data.toList = [61] := by rw [← Lib.toList_data]; simpa using he
              rw [HN.out, Wd.tokAt_sign HD.out HK2.out HS.out (nat_eq h5), if_pos he2, ← HL.out]; rfl
            go_wp2_with (fail)
            go_region
            all_goals go_wp2_with (fail)
            rw [HF.out]
            refine bodyPost_ret (v := .tuple #[.agg #[.int .u8 0, .string ⟨#[]⟩, .int .i64 0, .int .i64 0, .int .i64 0, .int .i64 0], .agg #[.int .i64 100, .int .i64 (ln + 1)]]) (by simp [results, Tryd.results9, go_sem, hz3, hz4, hz5, hz6, hz7, hy1, hy2, hc5, hc3]) rfl ⟨rfl, ?_⟩
            repeat (first | (with_reducible exact hbw5) | (with_reducible refine Below.setCell ?_ ?_ _) | (with_reducible refine Below.drew ?_) | (with_reducible refine Below.alloc ?_ ?_ _))
            all_goals (simp only [World.size_setCell]; omega)
      · have he : ((s.extract a (a + k)).toList == [61]) = false := by
          rw [Lib.toList_data]
          simp only [beq_eq_false_iff_ne, ne_eq]
          intro e
          rw [← HS.out, show k = (k - 1) + 1 by omega, List.take_succ_cons] at e
          exact Wd.name_sign (nat_eq h4) (List.cons.inj e).1
        go_wp2_with (fail)
        refine (Tryd.strings_Contains_shaped _ _ _ (World.ShapedOpen.keptBut (may := fun _ => False) hsh (Below.frame (by
            repeat (first | (with_reducible exact hbw5) | (with_reducible refine Below.setCell ?_ ?_ _))
            all_goals (simp only; omega)) _) (fun _ hf => hf.elim)) (by decide +kernel)).mono ?_
        rintro e w6 ⟨rfl, rfl⟩
        rw [show Lib.contains _ ((⟨#[32]⟩ : ByteArray) ++ s.extract a (a + k) ++ ⟨#[32]⟩).data.toList = Wd.isKey (s.extract a (a + k)).data.toList from by simp [Wd.isKey, Wd.keys]]
        have hq : ∃ W6, W6 = ((w5.setCell ⟨w4.heap.size, 5, none⟩ (.int .i64 (↑a + ↑k))).setCell ⟨w4.heap.size, 0, none⟩ (.int .u8 2)).setCell ⟨w4.heap.size, 1, none⟩ (.string (s.extract a (a + k))) := ⟨_, rfl⟩
        obtain ⟨W6, hq⟩ := hq
        rw [← hq]
        have hbw6 : Below w.heap.size w W6 := by
          rw [hq]
          repeat (first | (with_reducible exact hbw5) | (with_reducible refine Below.setCell ?_ ?_ _))
          all_goals (simp only; omega)
        have k0 : W6.cell? ⟨w4.heap.size, 0, none⟩ = some (.int .u8 2) := by rw [hq]; simp [go_sem, hc5]
        have k1 : W6.cell? ⟨w4.heap.size, 1, none⟩ = some (.string (s.extract a (a + k))) := by rw [hq]; simp [go_sem, hc5]
        have k2 : W6.cell? ⟨w4.heap.size, 2, none⟩ = some (.int .i64 0) := by rw [hq]; simp [go_sem, hc5]
        have k3 : W6.cell? ⟨w4.heap.size, 3, none⟩ = some (.int .i64 (ln + 1)) := by rw [hq]; simp [go_sem, hc5]
        have k4 : W6.cell? ⟨w4.heap.size, 4, none⟩ = some (.int .i64 a) := by rw [hq]; simp [go_sem, hc5]
        have k5 : W6.cell? ⟨w4.heap.size, 5, none⟩ = some (.int .i64 (a + k)) := by rw [hq]; simp [go_sem, hc5]
        have k6 : ∀ o, W6.frozen? ⟨w4.heap.size, o, none⟩ = false := by intro o; rw [hq]; simp [go_sem, hf5]
        have hb6 : Below (w.heap.size + 2) w4 W6 := by
          rw [hq]
          refine Below.setCell (Below.setCell (Below.setCell (((Below.refl _ _).alloc (by omega) _).trans (hb5.mono (by omega))) ?_ _) ?_ _) ?_ _
          all_goals (simp only; omega)
        obtain ⟨hc6, hf6⟩ := bcell2 hb6
        have hz8 : w4.heap.size < W6.heap.size := by rw [hq]; simp only [World.size_setCell]; omega
        have hz9 : w.heap.size < W6.heap.size := by omega
        have hz10 : w.heap.size + 1 < W6.heap.size := by omega
        clear hq
        rcases hkk : Wd.isKey (s.extract a (a + k)).data.toList with _ | _
        · have HF : Hid (nextV (Wd.next s.data.toList n) = .tuple #[.agg #[.int .u8 2, .string (s.extract a (a + k)), .int .i64 0, .int .i64 (ln + 1), .int .i64 a, .int .i64 (a + k)], .agg #[.int .i64 0, .int .i64 0]]) := by
            show _ = _
            rw [HN.out, Wd.tokAt_name HD.out HK2.out HS.out (nat_eq h4), ← HL.out, hkk]
            simp only [nextV, tokV, faultV, bytes_mk, Int.natCast_add]; rfl
          go_wp2_with (fail)
          rw [HF.out]
          refine bodyPost_ret (v := .tuple #[.agg #[.int .u8 2, .string (s.extract a (a + k)), .int .i64 0, .int .i64 (ln + 1), .int .i64 a, .int .i64 (a + k)], .agg #[.int .i64 0, .int .i64 0]]) (by simp [results, Tryd.results9, go_sem, hz3, hz4, hz5, hz6, hz7, hy1, hy2, hc6, hc3, k0, k1, k2, k3, k4, k5, hz8, hz9, hz10]) rfl ⟨rfl, ?_⟩
          repeat (first | (with_reducible exact hbw6) | (with_reducible refine Below.setCell ?_ ?_ _) | (with_reducible refine Below.drew ?_) | (with_reducible refine Below.alloc ?_ ?_ _))
          all_goals (simp only [World.size_setCell]; omega)
        · have HF : Hid (nextV (Wd.next s.data.toList n) = .tuple #[.agg #[.int .u8 3, .string (s.extract a (a + k)), .int .i64 0, .int .i64 (ln + 1), .int .i64 a, .int .i64 (a + k)], .agg #[.int .i64 0, .int .i64 0]]) := by
            show _ = _
            rw [HN.out, Wd.tokAt_name HD.out HK2.out HS.out (nat_eq h4), ← HL.out, hkk]
            simp only [nextV, tokV, faultV, bytes_mk, Int.natCast_add]; rfl
          go_wp2_with (fail)
          rw [HF.out]
          refine bodyPost_ret (v := .tuple #[.agg #[.int .u8 3, .string (s.extract a (a + k)), .int .i64 0, .int .i64 (ln + 1), .int .i64 a, .int .i64 (a + k)], .agg #[.int .i64 0, .int .i64 0]]) (by simp [results, Tryd.results9, go_sem, hz3, hz4, hz5, hz6, hz7, hy1, hy2, hc6, hc3, k0, k1, k2, k3, k4, k5, hz8, hz9, hz10]) rfl ⟨rfl, ?_⟩
          repeat (first | (with_reducible exact hbw6) | (with_reducible refine Below.setCell ?_ ?_ _) | (with_reducible refine Below.drew ?_) | (with_reducible refine Below.alloc ?_ ?_ _))
          all_goals (simp only [World.size_setCell]; omega)
    · have hdig : ∀ c ∈ (s.extract a (a + k)).data.toList, 48 ≤ c.toNat ∧ c.toNat ≤ 57 := by
        intro c hc
        rw [← HS.out, ← HK2.out] at hc
        exact Wd.cls_digit c (Wd.tok_digits _ _ (nat_eq h3) c hc)
      go_wp2_with (fail)
      have hxs : (s.extract a (a + k)).size ≤ 16384 := by
        have h3 : (s.extract a (a + k)).size = min (a + k) s.size - a := ByteArray.size_extract
        omega
      refine (number_any _ _ hxs hdig).mono ?_
      rintro e w6 ⟨rfl, hb6⟩
      have hb6' := hb6.mono (B' := w4.heap.size + 1) (by simp only [World.size_setCell]; omega)
      obtain ⟨hc6, hf6⟩ := bcell2 hb6'
      have hz8 : w4.heap.size < w6.heap.size := by have := hb6.size; simp at this; omega
      have hz9 : w.heap.size < w6.heap.size := by omega
      have hz10 : w.heap.size + 1 < w6.heap.size := by omega
      have hbw6 : Below w.heap.size w w6 := by
        refine Below.trans ?_ (hb6'.mono (by omega))
        repeat (first | (with_reducible exact hbw5) | (with_reducible refine Below.setCell ?_ ?_ _))
        all_goals (simp only; omega)
      have HM := Wd.tokAt_int HD.out HK2.out HS.out (nat_eq h3)
      rcases ho : Wd.num 0 (s.extract a (a + k)).data.toList with _ | v
      · have HF : Hid (nextV (Wd.next s.data.toList n) = .tuple #[.agg #[.int .u8 0, .string ⟨#[]⟩, .int .i64 0, .int .i64 0, .int .i64 0, .int .i64 0], .agg #[.int .i64 100, .int .i64 (ln + 1)]]) := by
          show _ = _
          rw [HN.out, HM, ← HL.out, ho]; rfl
        clear HM
        simp only [numV]
        go_wp2_with (fail)
        go_region
        all_goals go_wp2_with (fail)
        rw [HF.out]
        refine bodyPost_ret (v := .tuple #[.agg #[.int .u8 0, .string ⟨#[]⟩, .int .i64 0, .int .i64 0, .int .i64 0, .int .i64 0], .agg #[.int .i64 100, .int .i64 (ln + 1)]]) (by simp [results, Tryd.results9, go_sem, hz3, hz4, hz5, hz6, hz7, hy1, hy2, hc5, hc3, hz8, hz9, hz10, hc6]) rfl ⟨rfl, ?_⟩
        repeat (first | (with_reducible exact hbw6) | (with_reducible refine Below.setCell ?_ ?_ _) | (with_reducible refine Below.drew ?_) | (with_reducible refine Below.alloc ?_ ?_ _))
        all_goals (simp only [World.size_setCell]; omega)
      · have HF : Hid (nextV (Wd.next s.data.toList n) = .tuple #[.agg #[.int .u8 1, .string ⟨#[]⟩, .int .i64 v, .int .i64 (ln + 1), .int .i64 a, .int .i64 (a + k)], .agg #[.int .i64 0, .int .i64 0]]) := by
          show _ = _
          rw [HN.out, HM, ← HL.out, ho]; rfl
        clear HM
        simp only [numV]
        go_wp2_with (fail)
        rw [HF.out]
        refine bodyPost_ret (v := .tuple #[.agg #[.int .u8 1, .string ⟨#[]⟩, .int .i64 v, .int .i64 (ln + 1), .int .i64 a, .int .i64 (a + k)], .agg #[.int .i64 0, .int .i64 0]]) (by simp [results, Tryd.results9, go_sem, hz3, hz4, hz5, hz6, hz7, hy1, hy2, hc5, hc3, hz8, hz9, hz10, hc6]) rfl ⟨rfl, ?_⟩
        repeat (first | (with_reducible exact hbw6) | (with_reducible refine Below.setCell ?_ ?_ _) | (with_reducible refine Below.drew ?_) | (with_reducible refine Below.alloc ?_ ?_ _))
        all_goals (simp only [World.size_setCell]; omega)
end Go.Proofs.YtedcdlofjemchaaDoor
