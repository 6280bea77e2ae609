/- WordsNames, its card: for every slice of bytes, every int and every byte the law answers true, and its arguments read as before; listed variables (utf8.acceptRanges, White_Space, asciiSpace, CaseRanges, utf8.first) as the program's text lays them. -/
import Derived.Test.YtedcdlofjemchaaDoorLawNames
import Derived.Test.YtedcdlofjemchaaDoorShelf2
import Derived.Test.YtedcdlofjemchaaDoorRowEnd
import Derived.Test.YtedcdlofjemchaaDoorCards
import Derived.Test.YtedcdlofjemchaaDoorTie
import Derived.ProofKit
import Derived.OpenShut
import Derived.ChangeSlices
import Derived.Carry
import Derived.Deep.DeepHandedRow
import Derived.Deep.DeepWitnessRowRef
import Derived.Lib.LaidCaseMet
import Derived.Lib.LaidU8
namespace Go.Proofs.YtedcdlofjemchaaDoor.wordsNames
open Go.ChangeShapes Go.WideShapes Go.ChangeAt Go.RowKit
set_option linter.unusedVariables false
set_option linter.unusedSimpArgs false

theorem own : ownKnob Tryd.prog.godebug = none := by kernel_rfl
theorem laidOut : laidOutB Tryd.prog = true := by kernel_rfl
theorem cellsByte : Tryd.prog.cellsOf 5 = 1 := by kernel_rfl

theorem byte_of (z : Int) (h : (Lit.int .u8 z).wf = true) : ((z.toNat.toUInt8).toNat : Int) = z := by
  have h' : 0 ≤ z ∧ z ≤ 255 := by simpa [Lit.wf, IntKind.min, IntKind.max, IntKind.signed, IntKind.bits] using h
  simp; omega

/-- THE CALL, at every slice that can be read. -/
theorem call (W : World) (hsh : Sh W) (htab : Lib.TabIs Tryd.prog W "strings.asciiSpace" .u8 Lib.asciiSpaceTab) (a : Option Addr) (len cap : Nat) (zs : List Int) (which change : Int) (hwh : -9223372036854775808 ≤ which ∧ which ≤ 9223372036854775807) (hch : 0 ≤ change ∧ change ≤ 255) (hl : len ≤ zs.length) (hm : len ≤ maxLen)
    (hc : ∀ ad, a = some ad → ∀ i, i < zs.length → W.cell? (ad.add i) = some (.int .u8 (zs.getD i 0))) (ha : a = none → len = 0) (hz : ∀ n ∈ zs, (Lit.int .u8 n).wf = true) :
    Calls Tryd.prog 4 #[.slice a len cap, .int .i64 which, .int .u8 change] W fun e w' => e = .returned (.bool true) ∧ Below W.heap.size W w' := by
  refine names_any a len cap ((zs.take len).map fun z => z.toNat.toUInt8) which change W hsh (by simp; omega) (by unfold maxLen at hm; omega) hwh hch htab ?_
  intro h0
  rcases a with _ | ⟨b, off, spot⟩
  · exact absurd (ha rfl) (by omega)
  · have hcell := hc _ rfl
    have hspot : spot = none := by simpa [Addr.add] using World.cell?_spot (hcell 0 (by omega))
    subst hspot
    have hb : b < W.heap.size := World.block_lt_of_cell? W _ (hcell 0 (by omega)) |> fun h => by simpa [Addr.add] using h
    refine ⟨b, off, rfl, hb, ?_⟩
    intro i hi
    have hi' : i < len := by simp at hi; omega
    have h1 := hcell i (by omega)
    rw [add_plain] at h1
    rw [h1]
    have h2 : zs.getD i 0 = zs[i]'(by omega) := by rw [List.getD_eq_getElem?_getD, List.getElem?_eq_getElem (by omega)]; rfl
    simp only [List.getElem_map, List.getElem_take]
    rw [byte_of _ (hz _ (List.getElem_mem _)), h2]

theorem gTab : Tryd.prog.globalNamed "strings.asciiSpace" = some 0 := by kernel_rfl
theorem gTabType : (Tryd.prog.globals[0]?).map (·.type) = some 57 := by kernel_rfl
theorem cellsTab : Tryd.prog.cellsOf 57 = 256 := by kernel_rfl
/-- The listed variables, one permuted list for another. -/
theorem laidVars_perm {P : Program} {w : World} {l l' : List (String × DataW Unit)} (hp : l.Perm l') : ∀ {ps : List MemPlace}, DataW.LaidVars P w l ps → ∃ ps', DataW.LaidVars P w l' ps' ∧ ps.Perm ps' := by
  induction hp with
  | nil => exact fun h => ⟨_, h, List.Perm.refl _⟩
  | cons x _ ih =>
    intro ps h
    obtain ⟨n, d⟩ := x
    obtain ⟨g, t, cs, fuel, p, q, h1, h2, h3, h4, h5, rfl⟩ := h
    obtain ⟨q', hq, hpq⟩ := ih h5
    exact ⟨_, ⟨g, t, cs, fuel, p, q', h1, h2, h3, h4, hq, rfl⟩, List.Perm.append_left _ hpq⟩
  | swap x y l =>
    intro ps h
    obtain ⟨n, d⟩ := x
    obtain ⟨m, d'⟩ := y
    obtain ⟨g, t, cs, fuel, p, q, h1, h2, h3, h4, h5, rfl⟩ := h
    obtain ⟨g', t', cs', fuel', p', q', h1', h2', h3', h4', h5', rfl⟩ := h5
    refine ⟨_, ⟨g', t', cs', fuel', p', _, h1', h2', h3', h4', ⟨g, t, cs, fuel, p, q', h1, h2, h3, h4, h5', rfl⟩, rfl⟩, ?_⟩
    rw [← List.append_assoc, ← List.append_assoc (MemPlace.row ⟨g', 0, none⟩ cs'.size ++ p')]
    exact List.Perm.append_right q' List.perm_append_comm
  | trans _ _ ih1 ih2 =>
    intro ps h
    obtain ⟨p1, h1, e1⟩ := ih1 h
    obtain ⟨p2, h2, e2⟩ := ih2 h1
    exact ⟨p2, h2, e1.trans e2⟩
theorem laidMet_perm {P : Program} {w : World} {l l' : List (String × DataW Unit)} (hp : l.Perm l') (h : laidMet P l w) : laidMet P l' w := by
  obtain ⟨ps, hv, hn, hr⟩ := h
  obtain ⟨ps', hv', e⟩ := laidVars_perm hp hv
  exact ⟨ps', hv', e.nodup_iff.1 hn, fun b off hb => hr b off (e.mem_iff.2 hb)⟩

theorem tabEq : (Rows.laid_strings_asciiSpace : DataW Unit) = Lib.tabData .u8 Lib.asciiSpaceTab := by kernel_rfl
theorem ascii_tab {W : World} (h : laidMetH Tryd.prog Rows.wordsNamesRow.laid W) : Lib.TabIs Tryd.prog W "strings.asciiSpace" .u8 Lib.asciiSpaceTab := by
  have h0 : laidMet Tryd.prog Rows.wordsNamesRow.laid W := h
  have h1 : Lib.VarReads Tryd.prog W "strings.asciiSpace" Rows.laid_strings_asciiSpace := Lib.laidMet.reads h0 (List.mem_cons_of_mem _ (List.mem_cons_of_mem _ List.mem_cons_self))
  rw [tabEq] at h1
  obtain ⟨g, t, cs, fuel, p, e1, e2, e3, e4⟩ := h1
  obtain rfl : 0 = g := Option.some.inj (gTab.symm.trans e1)
  obtain rfl : 57 = t := Option.some.inj (gTabType.symm.trans e2)
  have := Lib.cells_of_tab Tryd.underlying57 Tryd.underlying5 cellsByte cellsTab e4
  unfold Lib.TabIs
  rw [e3, ← this]

set_option maxRecDepth 100000 in
theorem contract (H : Type) (enc : TypeId × Value → H) (W : World) (base : Nat) (args : Array Value) (ds gs : List (DataW H)) (before : List MemPlace)
    (hval : ∀ (j : Nat) t v, Tryd.f4.params[j]? = some t → args[j]? = some v → Value.okWide Tryd.prog W .any base t v)
    (hW : DataW.Whole enc Tryd.prog Tryd.f4.params.toList Rows.wordsNamesSpec.vars false W args.toList ds gs before) (hsh : W.ShapedOpen Tryd.prog) (htab : Lib.TabIs Tryd.prog W "strings.asciiSpace" .u8 Lib.asciiSpaceTab) :
    Calls Tryd.prog 4 args W fun e W' => ∃ v, e = .returned v ∧ Rows.wordsNamesSpec.post enc Tryd.prog Tryd.f4 false true false false W args v W' := by
  have hW' := hW
  obtain ⟨p, q, hA0, hV, rfl, hfz, hnd⟩ := hW
  have hA : DataW.TrodAll enc Tryd.prog W 0 (fun _ => true) true Tryd.f4.params.toList args.toList ds p := hA0
  rw [Tryd.params4] at hA hval
  obtain ⟨v0, vs0, d0, ds0, p0, q0, hargs, rfl, rfl, h0, r0⟩ := trodAll_cons hA
  obtain ⟨v1, vs1, d1, ds1, p1, q1, rfl, rfl, rfl, h1, r1⟩ := trodAll_cons r0
  obtain ⟨v2, vs2, d2, ds2, p2, q2, rfl, rfl, rfl, h2, r2⟩ := trodAll_cons r1
  obtain ⟨rfl, rfl, rfl⟩ := trodAll_nil r2
  obtain rfl : args = #[v0, v1, v2] := Array.toList_inj.1 hargs
  obtain ⟨rfl, rfl⟩ := trodVars_none hV
  have h0' := h0
  obtain ⟨which, rfl, rfl, rfl, ww⟩ := open_int Tryd.underlying3 (hval 1 3 v1 rfl rfl) h1
  obtain ⟨change, rfl, rfl, rfl, wc⟩ := open_int Tryd.underlying5 (hval 2 5 v2 rfl rfl) h2
  have hwh : -9223372036854775808 ≤ which ∧ which ≤ 9223372036854775807 := by simpa [Lit.wf, IntKind.min, IntKind.max, IntKind.signed, IntKind.bits] using ww
  have hch : 0 ≤ change ∧ change ≤ 255 := by simpa [Lit.wf, IntKind.min, IntKind.max, IntKind.signed, IntKind.bits] using wc
  obtain ⟨a0, len0, cap0, rfl⟩ := okWide_slice Tryd.underlying22 (hval 0 22 v0 rfl rfl)
  obtain ⟨fuel, hf⟩ := h0
  have hcall : Calls Tryd.prog 4 #[.slice a0 len0 cap0, .int .i64 which, .int .u8 change] W fun e w' => e = .returned (.bool true) ∧ Below W.heap.size W w' := by
    rcases open_ints Tryd.underlying22 Tryd.underlying5 cellsByte hf with ⟨hcs, hx⟩ | ⟨a, len, cap, zs, hcs, _, hl, hm, hz, hx, hcell, hwz⟩
    · simp [Value.cells] at hcs
      obtain ⟨rfl, rfl, rfl⟩ := hcs
      exact call W hsh htab none 0 0 [] which change hwh hch (Nat.le_refl _) (Nat.zero_le _) (fun _ h => by cases h) (fun _ => rfl) (fun _ h => by cases h)
    · simp [Value.cells] at hcs
      obtain ⟨rfl, rfl, rfl⟩ := hcs
      simp only [if_true] at hz
      exact call W hsh htab (some a) _ _ zs which change hwh hch (by omega) (by omega) (fun ad h i hi => by cases h; exact hcell i hi) (fun h => by cases h) hwz
  refine hcall.mono fun e W' ⟨he, hb⟩ => ?_
  subst he
  exact ⟨_, rfl, RowEnd.law_post laidOut (bt := 4) Tryd.underlying4 (by kernel_rfl) (by rw [Tryd.params4]; intro t ht; simp at ht; rcases ht with rfl | rfl | rfl <;> exact ⟨by kernel_rfl, of_decide_eq_true (by kernel_rfl)⟩) rfl rfl hW' hb⟩

/-- A WORLD FOR THE WITNESS: the settled one, the listed tables as their initialisers lay them. -/
noncomputable def laidWorld (os : Os) : World :=
  let N := (World.settled Tryd.prog os).heap.size
  let w0 := World.holding Tryd.prog os ⟨#[.cells (Lib.whiteT.map fun (z : Nat) => Value.int .u16 (z : Int)).toArray 97, .cells #[.slice (some ⟨N, 0, none⟩) 7 7, .slice none 0 0, .int .i64 2] 94,
    .cells Lib.caseCells5 122], #[], []⟩
  let put (h : Array Obj) (g : Nat) (cs : Array Value) : Array Obj := h.modify g fun
    | .cells _ t frozen => .cells cs t frozen
    | o => o
  let h1 := put w0.heap 0 (Lib.asciiSpaceTab.map fun z => Value.int .u8 z).toArray
  let h2 := put h1 4 (Lib.firstTab.map fun z => Value.int .u8 z).toArray
  let h3 := put h2 5 ((List.range 16).flatMap fun i => [Value.int .u8 (Lib.accLo i), Value.int .u8 (Lib.accHi i)]).toArray
  let h4 := put h3 1 #[.pointer (some ⟨N + 1, 0, none⟩)]
  let h5 := put h4 3 #[.slice (some ⟨N + 2, 0, none⟩) 336 336]
  { w0 with heap := h5 }
theorem caseEq : (Rows.laid_unicode_CaseRanges : DataW Unit) = Lib.caseData := by kernel_rfl
theorem laid_met (os : Os) : laidMet Tryd.prog Rows.wordsNamesRow.laid ((laidWorld os).forCall (fun _ _ => 0) ⟨#[], #[.slice none 0 0, .int .i64 0, .int .u8 0], []⟩).memory := by
  have h := laidMet_with_case (ρ := Tryd.lays158_ren) (w := ((laidWorld os).forCall (fun _ _ => 0) ⟨#[], #[.slice none 0 0, .int .i64 0, .int .u8 0], []⟩).memory) { Tryd.lays158 with } Tryd.lays158.t206 ⟨by kernel_rfl, by kernel_rfl, by kernel_rfl, by kernel_rfl, by kernel_rfl, by kernel_rfl⟩
    (l := [("unicode/utf8.acceptRanges", Rows.laid_unicode_utf8_acceptRanges), ("unicode.White_Space", Rows.laid_unicode_White_Space), ("strings.asciiSpace", Rows.laid_strings_asciiSpace), ("unicode/utf8.first", Rows.laid_unicode_utf8_first)])
    10 (by kernel_rfl) (by kernel_rfl) (by kernel_rfl) ((World.settled Tryd.prog default).heap.size + 2) (Tryd.lays158_ren.t 208) (of_decide_eq_true (by kernel_rfl)) (by kernel_rfl) (by kernel_rfl) (by kernel_rfl)
  rw [← caseEq] at h
  exact laidMet_perm (List.Perm.append_left [("unicode/utf8.acceptRanges", Rows.laid_unicode_utf8_acceptRanges), ("unicode.White_Space", Rows.laid_unicode_White_Space), ("strings.asciiSpace", Rows.laid_strings_asciiSpace)] (List.Perm.swap ("unicode.CaseRanges", Rows.laid_unicode_CaseRanges) ("unicode/utf8.first", Rows.laid_unicode_utf8_first) [])) h
theorem reads (os : Os) {H : Type} (enc : TypeId × Value → H) : ∃ places, DataW.whole enc Tryd.prog ((laidWorld os).forCall (fun _ _ => 0) ⟨#[], #[.slice none 0 0, .int .i64 0, .int .u8 0], []⟩).memory Tryd.f4.params.toList Rows.wordsNamesSpec.vars false #[Value.slice none 0 0, Value.int .i64 0, Value.int .u8 0].toList 8 = some ([.nil, .lit (.int .i64 0), .lit (.int .u8 0)], [], places) :=
  ⟨[], by kernel_rfl⟩

set_option maxRecDepth 100000 in
theorem lifted (os : Os) (started : os.Started) (H : Type) (enc : TypeId × Value → H) (F : Stop.Interp) :
    ReturnsInHanded {} Tryd.checked os 4 .any ((OpenSpec.ofChange Rows.wordsNamesSpec).preRow enc Tryd.prog Tryd.f4 Rows.wordsNamesRow.domain false Rows.wordsNamesRow.laid) (((OpenSpec.ofChange Rows.wordsNamesSpec).at F).post enc Tryd.prog Tryd.f4 false true false false) := by
  obtain ⟨places, hx⟩ := reads os enc
  refine returnsInHanded_of_row (C := Tryd.checked) (s := OpenSpec.ofChange Rows.wordsNamesSpec) own started (by kernel_rfl) Tryd.func4
    (witness_row_atRef (enc := enc) (C := Tryd.checked) false (laidWorld os) #[.slice none 0 0, .int .i64 0, .int .u8 0] rfl (by kernel_rfl) (by kernel_rfl) (by kernel_rfl)
      (OpenSpec.preRow_of_cond 8 hx (by kernel_rfl) (fun k hk => by cases hk) (by kernel_rfl) (laid_met os))) ?_
  intro W base args ds gs before hval hW _ _ _ hL hsh _
  exact contract H enc W base args ds gs before hval hW hsh (ascii_tab hL)

theorem said : Rows.WordsNamesSaid :=
  OpenClaim.holds_of_cond 4 Tryd.f4 rfl rfl rfl rfl rfl rfl rfl ⟨rfl, rfl, rfl, rfl, rfl⟩ rfl rfl rfl rfl rfl (by kernel_rfl) Tryd.func4 (by kernel_rfl)
    (of_decide_eq_true (by kernel_rfl)) (by unfold Func.isWrapper; first | (rw [if_pos (by decide +kernel)]; kernel_rfl) | (rw [if_neg (by decide +kernel)]; exact ⟨rfl, rfl⟩))
    (fun os started H enc _ F => by rw [OpenClaim.pre_eq_preRow]; exact lifted os started H enc F)

theorem plain (f : FuncId) (fn : Func) (hf : Tryd.pinned.checked.prog.funcNamed "amanuensis/amanuensislaw08.WordsNames" = some f) (hfn : Tryd.pinned.checked.prog.funcs[f]? = some fn) :
    false = Tryd.pinned.checked.prog.looks [] ∧ ∀ (j : Nat) t, fn.params[j]? = some t → Tryd.pinned.checked.prog.wantsStandIn t = false := by
  obtain rfl : f = 4 := Option.some.inj ((show Tryd.prog.funcNamed "amanuensis/amanuensislaw08.WordsNames" = some 4 by kernel_rfl).symm.trans hf) |>.symm
  obtain rfl : fn = Tryd.f4 := (Option.some.inj (Tryd.func4.symm.trans hfn)).symm
  refine ⟨by kernel_rfl, fun j t ht => ?_⟩
  rw [Tryd.params4] at ht
  have := Array.mem_of_getElem? ht
  simp at this
  rcases this with rfl | rfl | rfl
  · exact (show Tryd.prog.wantsStandIn 22 = false by kernel_rfl)
  · exact (show Tryd.prog.wantsStandIn 3 = false by kernel_rfl)
  · exact (show Tryd.prog.wantsStandIn 5 = false by kernel_rfl)

/-- THE CARD. -/
theorem card : Rows.WordsNamesCardSaid :=
  Claim7.holds_tied_plain_at .later [] _ _ _ _ said (fun _ h => by cases h) (by kernel_rfl) (fun _ h => by cases h) wordsNames_row_tie rfl ⟨rfl, rfl⟩ (by kernel_rfl) rfl plain (by kernel_rfl)
end Go.Proofs.YtedcdlofjemchaaDoor.wordsNames
