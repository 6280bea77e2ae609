/- The walk of the table of classes. -/
import Derived.Test.YtedcdlofjemchaaDoorWalkWords
import Derived.Laws.Tables
import Derived.Laws.RangeString
namespace Go.Proofs.YtedcdlofjemchaaDoor
open Go.RowKit
set_option linter.unusedVariables false

/-- 256 bytes. -/
def tab (f : Nat → Nat) : Array Value := ((List.range 256).map fun i => Value.int .u8 (f i)).toArray
theorem tab_size (f : Nat → Nat) : (tab f).size = 256 := by simp [tab]
theorem tab_get (f : Nat → Nat) (i : Nat) (h : i < 256) : (tab f)[i]? = some (.int .u8 (f i)) := by simp [tab, h]
theorem tab_none (f : Nat → Nat) (i : Nat) (h : 256 ≤ i) : (tab f)[i]? = none := Array.getElem?_eq_none (by rw [tab_size]; exact h)
theorem tab_set (f : Nat → Nat) (i v : Nat) (h : i < 256) : (tab f).setIfInBounds i (.int .u8 v) = tab (fun j => if j = i then v else f j) := by
  apply Array.ext_getElem?
  intro j
  rw [Array.getElem?_setIfInBounds, tab_size]
  by_cases hj : j < 256
  · rw [tab_get _ j hj]
    by_cases e : i = j
    · subst e; rw [tab_get _ i hj]; simp [h]
    · rw [if_neg e, tab_get (fun j => if j = i then v else f j) j hj, if_neg (fun h => e (Eq.symm h))]
  · rw [tab_none _ j (by omega), tab_none _ j (by omega), if_neg (by omega)]
/-- The table under way. -/
def Tab (w : World) (b : Nat) (f : Nat → Nat) : Prop := w.heap[b]? = some (.cells (tab f) 57 (0, 0))
theorem Tab.cell {w : World} {b : Nat} {f : Nat → Nat} (h : Tab w b f) (i : Nat) (hi : i < 256) : w.cell? ⟨b, i, none⟩ = some (.int .u8 (f i)) := by
  rw [cell_of_row w b i _ _ _ h, tab_get f i hi]
theorem Tab.free {w : World} {b : Nat} {f : Nat → Nat} (h : Tab w b f) (i : Nat) : w.frozen? ⟨b, i, none⟩ = false := frozen_of_row w b i _ _ h
theorem Tab.set {w : World} {b : Nat} {f : Nat → Nat} (h : Tab w b f) (i v : Nat) (hi : i < 256) : Tab (w.setCell ⟨b, i, none⟩ (.int .u8 v)) b (fun j => if j = i then v else f j) := by
  have := heap_setCell_same w b i _ _ (.int .u8 v) h
  rwa [tab_set f i v hi] at this
theorem Tab.other {w : World} {b b' i : Nat} {v : Value} {f : Nat → Nat} (h : Tab w b f) (hne : b ≠ b') : Tab (w.setCell ⟨b', i, none⟩ v) b f := by
  unfold Tab; rw [heap_setCell_other _ _ _ _ hne]; exact h
theorem Tab.iter {w : World} {b : Nat} {s : ByteArray} {k : Nat} {f : Nat → Nat} (h : Tab w b f) : Tab (w.iter s k) b f := by
  have hb : b < w.heap.size := by
    rcases Nat.lt_or_ge b w.heap.size with h1 | h1
    · exact h1
    · unfold Tab at h; simp [Array.getElem?_eq_none h1] at h
  unfold Tab World.iter; rw [Below.heap_alloc _ _ _ hb]; exact h
theorem iter_setCell (w : World) (s : ByteArray) (k b i : Nat) (v : Value) (h : b < w.heap.size) : (w.iter s k).setCell ⟨b, i, none⟩ v = (w.setCell ⟨b, i, none⟩ v).iter s k := by
  simp only [World.iter, World.alloc, World.setCell]
  congr 1
  apply Array.ext_getElem?
  intro j
  simp only [Array.getElem?_modify, Array.getElem?_push, Array.size_modify]
  by_cases e : b = j
  · subst e; have hb : ¬ b = w.heap.size := by omega
    simp [hb]
  · simp [e]
theorem zero_tab : Tryd.zeroCells57 = tab (fun _ => 0) := by kernel_rfl

def blanks : List UInt8 := [9, 10, 13, 32]
def signs : List UInt8 := [60, 43, 45, 42, 40, 41, 123, 125, 59, 61]
def fA (k : Nat) (j : Nat) : Nat := if (blanks.take k).any (·.toNat == j) then 1 else 0
def fB (k : Nat) (j : Nat) : Nat := if 48 ≤ j ∧ j < 48 + k then 3 else if j = 35 then 2 else fA 4 j
def fC (k : Nat) (j : Nat) : Nat := if (97 ≤ j ∧ j < 97 + k) ∨ (65 ≤ j ∧ j < 65 + k) then 4 else fB 10 j
def fD (k : Nat) (j : Nat) : Nat := if (signs.take k).any (·.toNat == j) then 5 else if j = 95 then 4 else fC 26 j
theorem f_end : ∀ j < 256, fD 10 j = Wd.cls j.toUInt8 := by decide +kernel


theorem next_at (w : World) (s : ByteArray) (k B : Nat) (hB : B = w.heap.size) (ty : TypeId) (h : k < s.size) (ha : (s[k]'h).toNat < 128) :
    (Instr.next (.pointer (some ⟨B, 0, none⟩)) true ty).run Tryd.prog (w.iter s k) = .ok (.tuple #[.bool true, .int .i64 k, .int .i32 (s[k]'h).toNat]) (w.iter s (k + 1)) := by
  subst hB; exact run_next_ascii w s k ty h ha
theorem next_over (w : World) (s : ByteArray) (k B : Nat) (hB : B = w.heap.size) (ty : TypeId) (h : ¬ k < s.size) :
    (Instr.next (.pointer (some ⟨B, 0, none⟩)) true ty).run Tryd.prog (w.iter s k) = .ok (.tuple #[.bool false]) (w.iter s k) := by
  subst hB; exact run_next_end w s k ty h
/-- What the walk of the table keeps. -/
structure Under (B : Nat) (w W : World) (f : Nat → Nat) : Prop where
  below : Below B w W
  res : Tab W B (fun _ => 0)
  row : Tab W (B + 1) f
theorem Under.set {B : Nat} {w W : World} {f : Nat → Nat} (h : Under B w W f) (i v : Nat) (hi : i < 256) : Under B w (W.setCell ⟨B + 1, i, none⟩ (.int .u8 v)) (fun j => if j = i then v else f j) :=
  ⟨h.below.setCell (by simp) _, h.res.other (by omega), h.row.set i v hi⟩
theorem Under.congr {B : Nat} {w W : World} {f g : Nat → Nat} (h : Under B w W f) (e : ∀ j < 256, f j = g j) : Under B w W g := by
  refine ⟨h.below, h.res, ?_⟩
  have : tab f = tab g := by
    apply Array.ext_getElem?
    intro j
    by_cases hj : j < 256
    · rw [tab_get f j hj, tab_get g j hj, e j hj]
    · rw [tab_none f j (by omega), tab_none g j (by omega)]
  unfold Tab; rw [← this]; exact h.row
def bl : ByteArray := ⟨#[9, 10, 13, 32]⟩

theorem bl_small : ∀ k, (h : k < bl.size) → (bl[k]'h).toNat < 128 := by
  have : ∀ k : Fin bl.size, (bl[k.1]'k.2).toNat < 128 := by decide +kernel
  exact fun k h => this ⟨k, h⟩
theorem fA_step (k : Nat) (h : k < bl.size) : ∀ j < 256, (if j = (bl[k]'h).toNat then 1 else fA k j) = fA (k + 1) j := by
  have : ∀ k : Fin bl.size, ∀ j < 256, (if j = (bl[k.1]'k.2).toNat then 1 else fA k.1 j) = fA (k.1 + 1) j := by decide +kernel
  exact this ⟨k, h⟩
def sg : ByteArray := ⟨#[60, 43, 45, 42, 40, 41, 123, 125, 59, 61]⟩
theorem sg_small : ∀ k, (h : k < sg.size) → (sg[k]'h).toNat < 128 := by
  have : ∀ k : Fin sg.size, (sg[k.1]'k.2).toNat < 128 := by decide +kernel
  exact fun k h => this ⟨k, h⟩
theorem fD_step (k : Nat) (h : k < sg.size) : ∀ j < 256, (if j = (sg[k]'h).toNat then 5 else fD k j) = fD (k + 1) j := by
  have : ∀ k : Fin sg.size, ∀ j < 256, (if j = (sg[k.1]'k.2).toNat then 5 else fD k.1 j) = fD (k.1 + 1) j := by decide +kernel
  exact this ⟨k, h⟩
theorem fB_zero : ∀ j < 256, (if j = 35 then 2 else fA 4 j) = fB 0 j := by decide +kernel
theorem fB_step (k : Nat) (h : k < 10) : ∀ j < 256, (if j = 48 + k then 3 else fB k j) = fB (k + 1) j := by
  have : ∀ k : Fin 10, ∀ j < 256, (if j = 48 + k.1 then 3 else fB k.1 j) = fB (k.1 + 1) j := by decide +kernel
  exact this ⟨k, h⟩
theorem fC_zero : ∀ j < 256, fB 10 j = fC 0 j := by decide +kernel
theorem fC_step (k : Nat) (h : k < 26) : ∀ j < 256, (if j = 65 + k then 4 else (if j = 97 + k then 4 else fC k j)) = fC (k + 1) j := by
  have : ∀ k : Fin 26, ∀ j < 256, (if j = 65 + k.1 then 4 else (if j = 97 + k.1 then 4 else fC k.1 j)) = fC (k.1 + 1) j := by decide +kernel
  exact this ⟨k, h⟩
theorem fD_zero : ∀ j < 256, (if j = 95 then 4 else fC 26 j) = fD 0 j := by decide +kernel

theorem wpList_store_row {P : Program} {ops : Array Oper} {rest : List Oper} {o : Oper} {a : Act} {w : World} {Q : Exit → Act → World → Prop} (hgd : o.guard = none) (ty : TypeId) (x y : Operand) (ho : o.op = .store ty x y)
    (g : Nat) (cells : Array Value) (hx : a.eval x = .pointer (some ⟨g, 0, none⟩)) (hy : a.eval y = .agg cells)
    (t : TypeId) (old : Array Value) (hg : w.heap[g]? = some (.cells old t (0, 0))) (hi : (P.info? ty).map (·.size) = some cells.size)
    (hold : old.size = cells.size) (h1 : cells.all (·.oneCell') = true)
    (h : wpList P ops Q rest (a.put o.dst undef) (w.setRow g cells)) : wpList P ops Q (o :: rest) a w :=
  wpList_plain hgd fun _ hK => wp_store_row ty x y ho g cells hx hy t old hg hi hold h1 (hK _ _ h)
theorem Under.iter {B : Nat} {w W : World} {f : Nat → Nat} {s : ByteArray} {k : Nat} (h : Under B w W f) (hB : B ≤ W.heap.size) : Under B w (W.iter s k) f :=
  ⟨h.below.alloc hB _, h.res.iter, h.row.iter⟩
theorem tab_one (f : Nat → Nat) : (tab f).all (·.oneCell') = true := by
  rw [Array.all_eq_true_iff_forall_mem]
  intro x hx
  simp only [tab, List.mem_toArray, List.mem_map] at hx
  obtain ⟨i, _, rfl⟩ := hx
  rfl
theorem Under.lt {B : Nat} {w W : World} {f : Nat → Nat} (h : Under B w W f) : B + 1 < W.heap.size := by
  rcases Nat.lt_or_ge (B + 1) W.heap.size with h1 | h1
  · exact h1
  · have := h.row; unfold Tab at this; simp [Array.getElem?_eq_none h1] at this

set_option maxRecDepth 100000 in
theorem classes_any (w : World) :
    Calls Tryd.prog 20 #[] w fun e w' => e = .returned (.agg (tab fun j => Wd.cls j.toUInt8)) ∧ Below w.heap.size w w' := by
  go_enter Tryd.func20, Tryd.ntmps20
  go_wp2
  go_loopg [] 4 (fun n wr => ∃ k W, wr = World.iter W bl k ∧ n + k = 4 ∧ W.heap.size = w.heap.size + 2 ∧ Under w.heap.size w W (fA k))
  case atStart =>
    refine ⟨0, _, rfl, rfl, by simp, ?_⟩
    rw [zero_tab]
    refine ⟨((Below.refl _ _).alloc (Nat.le_refl _) _).alloc (by simp) _, heap_alloc2_old _ _ _, ?_⟩
    have h := heap_alloc2_new w (.cells (tab fun x => 0) 57) (.cells (tab fun x => 0) 57)
    exact h
  case round =>
    obtain ⟨k, W, rfl, hk, hsz, hU⟩ := hrel
    by_cases hlt : k < bl.size
    · have hn := fun ty => next_at W bl k (w.heap.size + 1 + 1) (by omega) ty hlt (bl_small k hlt)
      have hb : (bl[k]'hlt).toNat < 128 := bl_small k hlt
      have hc : (W.iter bl (k + 1)).cell? ⟨w.heap.size + 1, (bl[k]'hlt).toNat, none⟩ = _ := (hU.row.iter (s := bl) (k := k + 1)).cell (bl[k]'hlt).toNat (by omega)
      have hf : (W.iter bl (k + 1)).frozen? ⟨w.heap.size + 1, (bl[k]'hlt).toNat, none⟩ = _ := (hU.row.iter (s := bl) (k := k + 1)).free (bl[k]'hlt).toNat
      have HZ := Lib.hid hsz
      clear hsz
      go_wp2_with (fail)
      go_roundg (4 - (k + 1))
      case measure => have : bl.size = 4 := rfl; omega
      case rel =>
        refine ⟨k + 1, W.setCell ⟨w.heap.size + 1, (bl[k]'hlt).toNat, none⟩ (.int .u8 1), iter_setCell _ _ _ _ _ _ (by have := HZ.out; omega), ?_, ?_, ?_⟩
        · have : bl.size = 4 := rfl; omega
        · have := HZ.out; simpa [World.setCell] using this
        · exact (hU.set (bl[k]'hlt).toNat 1 (by omega)).congr (fA_step k hlt)
    · have hn := fun ty => next_over W bl k (w.heap.size + 1 + 1) (by omega) ty hlt
      obtain rfl : k = 4 := by have : bl.size = 4 := rfl; omega
      have hU1 := hU.iter (s := bl) (k := 4) (by omega)
      have hc : (W.iter bl 4).cell? ⟨w.heap.size + 1, 35, none⟩ = _ := hU1.row.cell 35 (by omega)
      have hf : (W.iter bl 4).frozen? ⟨w.heap.size + 1, 35, none⟩ = _ := hU1.row.free 35
      clear hsz hlt
      go_wp2_with (fail)
      have hU2 := (hU1.set 35 2 (by omega)).congr fB_zero
      clear hc hf hn
      go_loopg [4] 10 (fun n p wr => ∃ k : Nat, n + k = 10 ∧ p = .int .i32 (48 + k) ∧ Under w.heap.size w wr (fB k))
      case atStart => exact ⟨0, rfl, rfl, hU2⟩
      case round =>
        clear hU hU1 hU2
        obtain ⟨k, hk, rfl, hU⟩ := hrel
        by_cases hlt : k < 10
        · have hc : wr.cell? ⟨w.heap.size + 1, 48 + k, none⟩ = _ := hU.row.cell (48 + k) (by omega)
          have hf : wr.frozen? ⟨w.heap.size + 1, 48 + k, none⟩ = _ := hU.row.free (48 + k)
          have hi : ((48 : Int) + k).toNat = 48 + k := by omega
          go_wp2_with (fail)
          go_roundg (10 - (k + 1))
          case measure => omega
          case rel => exact ⟨k + 1, by omega, by go_num, (hU.set (48 + k) 3 (by omega)).congr (fB_step k hlt)⟩
        · obtain rfl : k = 10 := by omega
          have hU2 := hU.congr fC_zero
          clear hU
          go_wp2_with (fail)
          go_loopg [5] 26 (fun n p wr => ∃ k : Nat, n + k = 26 ∧ p = .int .i32 (97 + k) ∧ Under w.heap.size w wr (fC k))
          case atStart => exact ⟨0, rfl, rfl, hU2⟩
          case round =>
            clear hU2
            obtain ⟨k, hk, rfl, hU⟩ := hrel
            by_cases hlt : k < 26
            · have hc : wr.cell? ⟨w.heap.size + 1, 97 + k, none⟩ = _ := hU.row.cell (97 + k) (by omega)
              have hf : wr.frozen? ⟨w.heap.size + 1, 97 + k, none⟩ = _ := hU.row.free (97 + k)
              have hi : ((97 : Int) + k).toNat = 97 + k := by omega
              have hU2 := hU.set (97 + k) 4 (by omega)
              have hc2 : (wr.setCell ⟨w.heap.size + 1, 97 + k, none⟩ (.int .u8 4)).cell? ⟨w.heap.size + 1, 65 + k, none⟩ = _ := hU2.row.cell (65 + k) (by omega)
              have hf2 : (wr.setCell ⟨w.heap.size + 1, 97 + k, none⟩ (.int .u8 4)).frozen? ⟨w.heap.size + 1, 65 + k, none⟩ = _ := hU2.row.free (65 + k)
              have hi2 : ((97 : Int) + k - 97 + 65) = 65 + k := by omega
              have hi3 : ((65 : Int) + k).toNat = 65 + k := by omega
              go_wp2_with (fail)
              go_roundg (26 - (k + 1))
              case measure => omega
              case rel => exact ⟨k + 1, by omega, by go_num, (hU2.set (65 + k) 4 (by omega)).congr (fC_step k hlt)⟩
            · obtain rfl : k = 26 := by omega
              clear hlt hk
              have hc : wr.cell? ⟨w.heap.size + 1, 95, none⟩ = _ := hU.row.cell 95 (by omega)
              have hf : wr.frozen? ⟨w.heap.size + 1, 95, none⟩ = _ := hU.row.free 95
              have hU2 := (hU.set 95 4 (by omega)).congr fD_zero
              have HL := Lib.hid hU2.lt
              go_wp2_with (fail)
              clear hc hf
              obtain ⟨B, hB⟩ : ∃ B, B = wr.heap.size := ⟨_, rfl⟩
              have hsz : (wr.setCell ⟨w.heap.size + 1, 95, none⟩ (.int .u8 4)).heap.size = B := by simp [World.setCell, hB]
              rw [← hB]
              clear hB
              generalize wr.setCell ⟨w.heap.size + 1, 95, none⟩ (.int .u8 4) = W0 at *
              have HZ := Lib.hid hsz
              clear hsz hU
              go_loopg [] 10 (fun n wr => ∃ k W, wr = World.iter W sg k ∧ n + k = 10 ∧ Hid (W.heap.size = B) ∧ Under w.heap.size w W (fD k))
              case atStart => exact ⟨0, W0, rfl, rfl, HZ, hU2⟩
              case round =>
                clear HZ hU2 HL
                obtain ⟨k, W, rfl, hk, HZ, hU⟩ := hrel
                by_cases hlt : k < sg.size
                · have hn := fun ty => next_at W sg k B HZ.out.symm ty hlt (sg_small k hlt)
                  have hb : (sg[k]'hlt).toNat < 128 := sg_small k hlt
                  have hc : (W.iter sg (k + 1)).cell? ⟨w.heap.size + 1, (sg[k]'hlt).toNat, none⟩ = _ := (hU.row.iter (s := sg) (k := k + 1)).cell (sg[k]'hlt).toNat (by omega)
                  have hf : (W.iter sg (k + 1)).frozen? ⟨w.heap.size + 1, (sg[k]'hlt).toNat, none⟩ = _ := (hU.row.iter (s := sg) (k := k + 1)).free (sg[k]'hlt).toNat
                  go_wp2_with (fail)
                  go_roundg (10 - (k + 1))
                  case measure => have : sg.size = 10 := rfl; omega
                  case rel =>
                    refine ⟨k + 1, W.setCell ⟨w.heap.size + 1, (sg[k]'hlt).toNat, none⟩ (.int .u8 5), iter_setCell _ _ _ _ _ _ (hU.lt), ?_, ?_, ?_⟩
                    · have : sg.size = 10 := rfl; omega
                    · have := HZ.out; show _ = _; simpa [World.setCell] using this
                    · exact (hU.set (sg[k]'hlt).toNat 5 (by omega)).congr (fD_step k hlt)
                · have hn := fun ty => next_over W sg k B HZ.out.symm ty hlt
                  obtain rfl : k = 10 := by have : sg.size = 10 := rfl; omega
                  have hU1 := (hU.iter (s := sg) (k := 10) (by have := hU.lt; omega)).congr f_end
                  clear hlt
                  go_wp2_with (first
                    | (refine wpList_load_row rfl 57 _ rfl (w.heap.size + 1) rfl 57 _ (0, 0) _ hU1.row Tryd.underlying57 rfl (by rw [tab_size]; kernel_rfl) ?_)
                    | (refine wpList_store_row rfl 57 _ _ rfl w.heap.size _ rfl rfl 57 _ hU1.res (by rw [tab_size]; kernel_rfl) (by rw [tab_size, tab_size]) (tab_one _) ?_))
                  refine bodyPost_ret (results_cell_row rfl _ _ w.heap.size 57 _ (0, 0) _ rfl (setRow_heap _ _ _ _ _ _ hU1.res) Tryd.underlying57 rfl (by rw [tab_size]; kernel_rfl)) rfl ⟨rfl, ?_⟩
                  exact hU1.below.trans ⟨rfl, rfl, rfl, by simp, fun j hj => setRow_other _ _ _ _ (by omega)⟩
end Go.Proofs.YtedcdlofjemchaaDoor
