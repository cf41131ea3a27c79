/- Chapter 09: the program's look, Of, Each. -/
import Derived.Test.YtidkbodmiegbkaaGreatDoorKdX
import Derived.Laws.MakeOwn
namespace Go.Proofs.YtidkbodmiegbkaaGreatDoor
set_option linter.unusedSimpArgs false
set_option linter.unusedVariables false
open Go.RowKit

theorem nodep_step {l : List ND} {lv : Value} {W0 : World} {C g bm kb fm f : Nat} (ih : NodeIsK l lv W0 C g bm kb fm f) : NodeIsK l lv W0 C g bm kb fm (f + 1) := by
  intro t p vs W nb nf K F H
  obtain ⟨k, s, n, ks⟩ := t
  by_cases h7 : k = 7
  · rcases shape_cases H.good.1.1 with ⟨rfl, h1, h2⟩ | ⟨a, rfl, h1⟩ | ⟨a, b, rfl, h1⟩ | ⟨a, b, c, rfl, h1⟩
    · exact nodep_var ih H h7
    all_goals omega
  · by_cases h31 : k < 31
    · exact nodep_gen ih H h7 h31
    · rcases shape_cases H.good.1.1 with ⟨rfl, h1, h2⟩ | ⟨a, rfl, h1⟩ | ⟨a, b, rfl, h1⟩ | ⟨a, b, c, rfl, h1⟩
      · omega
      · omega
      · exact nodep_loop ih H (by omega) (by omega)
      · omega
theorem nodep_all {l : List ND} {lv : Value} {W0 : World} {C g bm kb fm : Nat} : ∀ f, NodeIsK l lv W0 C g bm kb fm f
  | 0 => fun t p vs W nb nf K F H => by
    have := H.deep
    obtain ⟨k, s, n, ks⟩ := t
    simp only [Tr.deep] at this
    omega
  | f + 1 => nodep_step (nodep_all f)
theorem info_I : (Tryz.prog.info? 3).map (fun i => (i.zero, i.size, i.bytes)) = some (some (.int .i64 0), 1, 8) := by kernel_rfl
theorem heap4 (W : World) (o1 o2 o3 o4 : Obj) : ((((W.alloc o1).alloc o2).alloc o3).alloc o4).heap[W.heap.size]? = some o1 ∧ ((((W.alloc o1).alloc o2).alloc o3).alloc o4).heap[W.heap.size + 1]? = some o2 ∧ ((((W.alloc o1).alloc o2).alloc o3).alloc o4).heap[W.heap.size + 1 + 1]? = some o3 ∧ ((((W.alloc o1).alloc o2).alloc o3).alloc o4).heap[W.heap.size + 1 + 1 + 1]? = some o4 := by
  have b : ∀ (w : World) (o : Obj) (i : Nat), i < w.heap.size → (w.alloc o).heap[i]? = w.heap[i]? := fun w o i hi => Below.heap_alloc w o i hi
  have n : ∀ (w : World) (o : Obj) (i : Nat), i = w.heap.size → (w.alloc o).heap[i]? = some o := fun w o i hi => by subst hi; exact heap_alloc_new w o
  refine ⟨?_, ?_, ?_, ?_⟩
  · rw [b _ _ _ (by simp <;> omega), b _ _ _ (by simp <;> omega), b _ _ _ (by simp), n _ _ _ rfl]
  · rw [b _ _ _ (by simp <;> omega), b _ _ _ (by simp), n _ _ _ (by simp)]
  · rw [b _ _ _ (by simp), n _ _ _ (by simp)]
  · rw [n _ _ _ (by simp)]
theorem map_new {W : World} {b : Nat} (h : W.heap[b]? = some (.map #[] 0)) : MapIs W b 0 (fun _ => 0) := ⟨.map [], ⟨#[], 0, h, ⟨by simp, MapKept.stamped_empty 0, by simp⟩, Nat.le_refl _, rfl⟩, Maps.tidy_empty, fun s _ => ⟨rfl, rfl⟩⟩
theorem map_newF {W : World} {b : Nat} (h : W.heap[b]? = some (.map #[] 0)) : MapIsF W b 0 (fun _ => 0) := ⟨.map [], ⟨#[], 0, h, ⟨by simp, MapKept.stamped_empty 0, by simp⟩, Nat.le_refl _, rfl⟩, Maps.tidy_empty, fun s _ => ⟨rfl, rfl⟩, fun kl h => by have e : Maps.has (.map [] : DataW Unit) kl = false := rfl; rw [e] at h; cases h⟩
theorem KSt.made {W : World} {g bm kb fm n : Nat} {lv : Value} (h4 : W.heap[g]? = some (.cells #[lv, .map (some bm), .slice (some ⟨kb, 0, none⟩) n n, .map (some fm)] 53)) (h1 : W.heap[bm]? = some (.map #[] 0)) (h2 : W.heap[fm]? = some (.map #[] 0)) (h3 : W.heap[kb]? = some (.cells (madeCells #[.int .i64 0] n) 3)) (hne : bm ≠ fm) : KSt W g bm kb fm 0 0 lv (List.replicate n 0) [] [] := by
  have e : INTS (List.replicate n 0) = madeCells #[.int .i64 0] n := by
    unfold INTS
    apply Array.ext_getElem?
    intro i
    rw [List.getElem?_toArray, List.getElem?_map, List.getElem?_replicate]
    unfold madeCells
    simp
    split <;> simp_all [Nat.mod_one]
  refine ⟨by rw [List.length_replicate]; exact h4, by unfold Blk; rw [e]; exact h3, (map_new h1).same (fun s _ => by simp [cntV]), (map_newF h2).same (fun s _ => by simp [freeV]), hne⟩
theorem KP.whole {t : Tr} {K K' : List Int} (h : KP 32 t [] 0 K K') (hd : t.deep ≤ 32) (hl : K.length = t.size) (hw : wR 32 t [] 0 < 0) : K' = ksR 32 t [] := by
  apply List.ext_getElem?
  intro i
  have hlen := ksR_len 32 t [] hd
  by_cases hi : i < t.size
  · obtain ⟨x, hx⟩ : ∃ x, (ksR 32 t [])[i]? = some x := ⟨_, List.getElem?_eq_getElem (by omega)⟩
    have := h.ins hw i x hx
    rw [Nat.zero_add] at this
    rw [this, hx]
  · rw [List.getElem?_eq_none (by have := h.len; omega), List.getElem?_eq_none (by omega)]
set_option maxRecDepth 100000 in
set_option maxHeartbeats 4000000 in
theorem look_bad {l : List ND} {v : Value} (w w0 : World) (hs : SlR w0 w0.heap.size 4 (ND.Is w0 w0.heap.size) v l) (hok : ∀ d ∈ l, NdOk d) (hm : Marks w0) (hp : Pow w0) (htk : TakesB w0) (hw : Below w0.heap.size w0 w) (hr : rightE l ≠ 0) :
    Calls Tryz.prog 19 #[.agg #[v]] w fun e w' => e = .returned (.tuple #[.pointer none, .int .i64 0, .int .i64 (rightE l : Int)]) ∧ Below w.heap.size w w' := by
  obtain ⟨a, c, rfl⟩ : ∃ a c, v = .slice a l.length c := by obtain ⟨a, c, h, _⟩ := hs.form; exact ⟨a, c, h⟩
  obtain ⟨n, hn⟩ : ∃ n, l.length = n := ⟨_, rfl⟩
  have HR := Lib.hid (right_e (w.alloc (.cells #[.slice a n c] 24)) w0 hs hok hm hp (hw.alloc hw.size _))
  rw [hn] at HR ⊢
  obtain ⟨r, hrr⟩ : ∃ r, rightE l = r := ⟨_, rfl⟩
  rw [hrr] at HR hr ⊢
  have e0 : ((r : Int) != 0) = true := by rw [bne_iff_ne]; omega
  clear hs hok hm hp hw hn hrr hr htk
  go_enter Tryz.func19, Tryz.ntmps19
  go_wp2_with (first
    | (go_at_call 11; go_must (refine HR.out.mono ?_); rintro e w3 ⟨rfl, hb⟩; have HB := Lib.hid hb; clear hb)
    | fail)
  go_ret3
  exact ⟨rfl, ((Below.refl _ _).alloc (Nat.le_refl _) _).trans (HB.out.mono (by simp <;> omega))⟩
/-- what look comes to where there is an expression -/
def atN (t : Tr) : Int := if wR 32 t [] 0 < 0 then 0 else wR 32 t [] 0
def errN (l : List ND) (t : Tr) : Int := if wR 32 t [] 0 < 0 then 0 else if (match l[(wR 32 t [] 0).toNat]? with | some d => d.kind | none => 0) = 7 then 91 else 90
def LookK (w : World) (lv : Value) (l : List ND) (t : Tr) (e : Ending) (w' : World) : Prop := ∃ g bm kb fm nb nf K, e = .returned (.tuple #[.pointer (some ⟨g, 0, none⟩), .int .i64 (atN t), .int .i64 (errN l t)]) ∧ KSt w' g bm kb fm nb nf lv K [] (frR 32 t [] []) ∧ K.length = l.length ∧ (wR 32 t [] 0 < 0 → K = ksR 32 t []) ∧ Below w.heap.size w w' ∧ w.heap.size ≤ kb ∧ w.heap.size ≤ fm ∧ nf ≤ 100000

set_option maxRecDepth 100000 in
set_option maxHeartbeats 8000000 in
theorem look_ok {t : Tr} {v : Value} (w w0 : World) (hs : SlR w0 w0.heap.size 4 (ND.Is w0 w0.heap.size) v (ndsT t 0)) (hok : ∀ d ∈ ndsT t 0, NdOk d) (hm : Marks w0) (hp : Pow w0) (htk : TakesB w0) (hw : Below w0.heap.size w0 w) (hg : t.Good) (hd : t.deep ≤ 32) (hsz : t.size ≤ 256) :
    Calls Tryz.prog 19 #[.agg #[v]] w (LookK w v (ndsT t 0) t) := by
  obtain ⟨l, hl⟩ : ∃ l, ndsT t 0 = l := ⟨_, rfl⟩
  have hst := stands_nds t
  have hr : rightE l = 0 := by rw [← hl]; exact (right_of hg hsz hd).1
  have hlen : l.length = t.size := by rw [← hl, nds_len]
  rw [hl] at hs hok hst ⊢
  obtain ⟨a, c, rfl⟩ : ∃ a c, v = .slice a l.length c := by obtain ⟨a, c, h, _⟩ := hs.form; exact ⟨a, c, h⟩
  have HR := Lib.hid (right_e (w.alloc (.cells #[.slice a l.length c] 24)) w0 hs hok hm hp (hw.alloc hw.size _))
  rw [hr] at HR
  have hun : Und l [] 0 t := Und.root hst hlen
  obtain ⟨n, hn⟩ : ∃ n, l.length = n := ⟨_, rfl⟩
  rw [hn] at HR hs hlen ⊢
  have hn256 : n ≤ 256 := by omega
  have hnp : 1 ≤ n := by obtain ⟨k, s, m, ks⟩ := t; simp only [Tr.size] at hlen; omega
  have HS := Lib.hid hs
  have HW := Lib.hid hw
  have HT := Lib.hid (And.intro hok (And.intro hg (And.intro hd (And.intro hun (And.intro hlen (And.intro htk hn))))))
  have NA := Lib.hid (fun (C g bm kb fm : Nat) => nodep_all (l := l) (lv := .slice a n c) (W0 := w0) (C := C) (g := g) (bm := bm) (kb := kb) (fm := fm) 32)
  obtain ⟨wr, hwr⟩ : ∃ z, wR 32 t [] 0 = z := ⟨_, rfl⟩
  have hin := wR_in 32 t [] 0
  rw [hwr] at hin
  have HWR := Lib.hid hwr
  have hmm := @run_makeMap Tryz.prog
  obtain ⟨jP, hi, hz, hsz2, hby⟩ := info_parts info_I
  have hmk : ∀ W, (Instr.makeSlice 33 (.int .i64 (n : Int)) (.int .i64 (n : Int))).run Tryz.prog W = .ok (.slice (some ⟨W.heap.size, 0, none⟩) n n) (W.alloc (.cells (madeCells #[.int .i64 0] (n * 1)) 3)) := fun W => by
    have h := run_make W 33 3 jP _ Tryz.underlying33 hi hz .i64 .i64 (n : Int) (n : Int) (by omega) (Int.le_refl _) (by rw [hby]; omega) (by omega)
    rw [hsz2, Int.toNat_natCast] at h
    exact h
  have n0 : (0 : Int) ≤ (n : Int) := Int.natCast_nonneg _
  have hin2 : wr = -1 ∨ (0 ≤ wr ∧ wr < (n : Int)) := by rw [hlen]; simpa using hin
  clear hs hok hm hp hw hr hg hd hsz hst hl hn hun hlen htk hwr hi hz hsz2 hby hin
  go_enter Tryz.func19, Tryz.ntmps19
  go_upto_region 4 with (first
    | (go_at_call 11; go_must (refine HR.out.mono ?_); rintro e w3 ⟨rfl, hb⟩
       go_must (have B3 : Hid (Below w.heap.size w w3) := Lib.hid (((Below.refl _ _).alloc (Nat.le_refl _) _).trans (hb.mono (by simp <;> omega))))
       go_must (have E3 := Lib.hid ((Blk.new w 24 #[.slice a n c]).below hb (by simp <;> omega)))
       clear hb)
    | fail)
  have c3 : w3.cell? ⟨w.heap.size, 0, none⟩ = some (.slice a n c) := E3.out.cell rfl
  have l3 : w.heap.size < w3.heap.size := E3.out.lt
  have l4 : w.heap.size < w3.heap.size + 1 := by omega
  have l5 : w.heap.size < w3.heap.size + 1 + 1 := by omega
  have l6 : w.heap.size < w3.heap.size + 1 + 1 + 1 := by omega
  go_cut [6] from 13 to 23 (fun v6 wx => ∃ g bm kb fm, v6 = .pointer (some ⟨g, 0, none⟩) ∧ Hid (KSt wx g bm kb fm 0 0 (.slice a n c) (List.replicate n 0) [] [] ∧ Below w3.heap.size w3 wx ∧ w3.heap.size ≤ g ∧ w3.heap.size ≤ bm ∧ w3.heap.size ≤ kb ∧ w3.heap.size ≤ fm))
  case first =>
    go_region
    all_goals
      go_wp2_with fail
      go_meet
      refine ⟨_, _, _, _, rfl, Lib.hid ⟨KSt.made (heap4 _ _ _ _ _).2.2.2 (by first | exact (heap4 _ _ _ _ _).1 | exact (heap4 _ _ _ _ _).2.1 | exact (heap4 _ _ _ _ _).2.2.1) (by first | exact (heap4 _ _ _ _ _).1 | exact (heap4 _ _ _ _ _).2.1 | exact (heap4 _ _ _ _ _).2.2.1) (by first | exact (heap4 _ _ _ _ _).1 | exact (heap4 _ _ _ _ _).2.1 | exact (heap4 _ _ _ _ _).2.2.1) (by omega), ?_, by omega, by omega, by omega, by omega⟩⟩
      first
        | exact (((((Below.refl _ _).alloc (Nat.le_refl _) _).alloc (by simp) _).alloc (by simp <;> omega) _).alloc (by simp <;> omega) _).drew
        | exact (((((Below.refl _ _).alloc (Nat.le_refl _) _).alloc (by simp) _).alloc (by simp <;> omega) _).alloc (by simp <;> omega) _)
  case rest =>
    obtain ⟨g, bm, kb, fm, rfl, hk⟩ := hcut
    rename World => w5
    have M5 := Lib.hid hk.out.1
    have B5 := Lib.hid hk.out.2.1
    have G5 := Lib.hid hk.out.2.2
    have E5 := Lib.hid (E3.out.below B5.out l3)
    have hsz5 := B5.out.size
    have NC : Hid (Calls Tryz.prog 25 #[.pointer (some ⟨g, 0, none⟩), .int .i64 0] w5 (NodeW w5 w3.heap.size g bm kb fm (.slice a n c) 32 t 0 [] 0 0 (List.replicate n 0) [])) := Lib.hid (NA.out w3.heap.size g bm kb fm t 0 [] w5 0 0 _ [] ⟨by rw [HT.out.2.2.2.2.2.2] at *; exact HS.out, HT.out.1, HT.out.2.1, HT.out.2.2.1, HT.out.2.2.2.1, (HW.out.trans (B3.out.mono HW.out.size)).trans (B5.out.mono (by have := HW.out.size; have := B3.out.size; omega)), by have := HW.out.size; have := B3.out.size; omega, G5.out.1, G5.out.2.1, G5.out.2.2.1, G5.out.2.2.2, M5.out, by rw [List.length_replicate]; exact HT.out.2.2.2.2.2.2.symm, HT.out.2.2.2.2.2.1, by simp, by have := HT.out.2.2.2.2.1; omega, by have := HT.out.2.2.2.2.1; omega⟩)
    have hC : w.heap.size ≤ w3.heap.size := Nat.le_of_lt l3
    clear hk c3 l4 l5 l6
    have tokN : True := trivial
    rcases hin2 with rfl | ⟨h0, h1⟩
    · go_wp2_with (first
        | (have _t := tokN; go_at_call 25; go_must (refine NC.out.mono ?_); clear tokN _t; rintro e w6 ⟨rfl, K, hm, hkp, hnk⟩; rw [HWR.out]; have R6 := Lib.hid (And.intro hm (And.intro hkp hnk)); clear hm hkp hnk)
        | fail)
      go_ret3
      exact ⟨g, bm, kb, fm, _, _, K, by unfold atN errN; rw [HWR.out]; rfl, R6.out.1, by rw [R6.out.2.1.len, List.length_replicate]; exact HT.out.2.2.2.2.2.2.symm, fun hw => R6.out.2.1.whole HT.out.2.2.1 (by rw [List.length_replicate]; exact HT.out.2.2.2.2.1) hw, (B3.out.trans (B5.out.mono hC)).trans (R6.out.2.2.bel.mono hC), by have := G5.out.2.2.1; omega, by have := G5.out.2.2.2; omega, by have := HT.out.2.2.2.2.1; omega⟩
    · obtain ⟨q, rfl⟩ : ∃ q : Nat, wr = q := ⟨wr.toNat, by omega⟩
      obtain ⟨d, hd⟩ : ∃ d, l[q]? = some d := ⟨_, List.getElem?_eq_getElem (by have := HT.out.2.2.2.2.2.2; omega)⟩
      have hB06 : ∀ w6, NK w5 w6 w3.heap.size bm kb fm → Below w0.heap.size w0 w6 := fun w6 h => ((HW.out.trans (B3.out.mono HW.out.size)).trans (B5.out.mono (by have := HW.out.size; omega))).trans (h.bel.mono (by have := HW.out.size; omega))
      obtain ⟨b, off, x, rfl, hbB, hxl, ⟨kv, rfl, hkv⟩, hx⟩ := HS.out.at_ hd
      have x0 := hx 0 _ rfl
      simp only [Nat.add_zero] at x0
      have hx0 : ∀ w6, NK w5 w6 w3.heap.size bm kb fm → w6.cell? ⟨b, off + q * 4, none⟩ = some (.int .i64 d.kind) := fun w6 h => ((hB06 w6 h).cell (p := ⟨b, off + q * 4, none⟩) hbB).trans x0
      have HX0 := Lib.hid hx0
      have hne : ¬ wR 32 t [] 0 < 0 := by rw [HWR.out]; omega
      have hat : atN t = (q : Int) := by unfold atN; rw [if_neg hne, HWR.out]
      have her : errN l t = if d.kind = 7 then 91 else 90 := by unfold errN; rw [if_neg hne, HWR.out, Int.toNat_natCast, hd]
      have HNE := Lib.hid (And.intro hat (And.intro her hne))
      have dq : decide ((q : Int) < 0) = false := by simp
      clear hd hB06 hxl hkv hx x0 hx0 hne hat her
      by_cases h7 : d.kind = 7
      all_goals
        first | have e7 : (d.kind == 7) = true := by (rw [h7]; rfl) | have e7 : (d.kind == 7) = false := by (simpa using h7)
        have H7 := Lib.hid h7
        clear h7
        go_wp2_with (first
          | (have _t := tokN; go_at_call 25; go_must (refine NC.out.mono ?_); clear tokN _t; rintro e w6 ⟨rfl, K, hm, hkp, hnk⟩; rw [HWR.out]
             go_must (have R6 := Lib.hid (And.intro hm (And.intro hkp hnk)))
             go_must (have E6 := E5.out.below hnk.bel l3)
             go_must (have c6 : w6.cell? ⟨w.heap.size, 0, none⟩ = some (.slice (some ⟨b, off, none⟩) n c) := E6.cell rfl)
             go_must (have y6 := HX0.out w6 hnk)
             clear hm hkp hnk E6)
          | fail)
        go_ret3
        refine ⟨g, bm, kb, fm, _, _, K, ?_, R6.out.1, by rw [R6.out.2.1.len, List.length_replicate]; exact HT.out.2.2.2.2.2.2.symm, fun hw => by have := HNE.out.2.2; omega, (B3.out.trans (B5.out.mono hC)).trans (R6.out.2.2.bel.mono hC), by have := G5.out.2.2.1; omega, by have := G5.out.2.2.2; omega, by have := HT.out.2.2.2.2.1; omega⟩
        rw [HNE.out.1, HNE.out.2.1]
        first | (rw [if_pos H7.out]; try rfl) | (rw [if_neg H7.out]; try rfl)
/-- a block of whole numbers as a row of the call's own -/
theorem Own1.ofInts {W : World} {base kb : Nat} {K : List Int} (h : Blk W kb 3 (INTS K)) (hb : base ≤ kb) (hl : K.length ≤ 1000) : Own1 W base 3 1 IsI (.slice (some ⟨kb, 0, none⟩) K.length K.length) K := by
  refine ⟨K.map fun x => .int .i64 x, ⟨by simp, .inr ⟨kb, K.length, INTS K, rfl, hb, h, Nat.le_refl _, by unfold maxLen; omega, by simp [INTS], by simp [INTS]; exact List.take_of_length_le (by simp)⟩⟩, by simp, fun i y hy => ?_⟩
  have hi := (List.getElem?_eq_some_iff.1 hy).1
  rw [Nat.mul_one]
  show _ = _
  rw [List.drop_eq_getElem_cons (by simpa using hi)]
  simp [(List.getElem?_eq_some_iff.1 hy).2]
def kindT (t : Tr) : Int := if wR 32 t [] 0 < 0 then kR 32 t [] else 0
def kindsT (t : Tr) : List Int := if wR 32 t [] 0 < 0 then ksR 32 t [] else []
theorem err_ne {l : List ND} {t : Tr} (h : ¬ wR 32 t [] 0 < 0) : (errN l t != 0) = true := by
  unfold errN
  rw [if_neg h]
  by_cases e : (match l[(wR 32 t [] 0).toNat]? with | some d => d.kind | none => 0) = 7
  · rw [if_pos e]; rfl
  · rw [if_neg e]; rfl
set_option maxRecDepth 100000 in
set_option maxHeartbeats 4000000 in
theorem of_bad {l : List ND} {v : Value} (w w0 : World) (hs : SlR w0 w0.heap.size 4 (ND.Is w0 w0.heap.size) v l) (hok : ∀ d ∈ l, NdOk d) (hm : Marks w0) (hp : Pow w0) (htk : TakesB w0) (hw : Below w0.heap.size w0 w) (hr : rightE l ≠ 0) :
    Calls Tryz.prog 8 #[.agg #[v]] w fun e w' => e = .returned (.tuple #[.int .i64 0, .int .i64 0, .int .i64 (rightE l : Int)]) ∧ Below w.heap.size w w' := by
  obtain ⟨a, c, rfl⟩ : ∃ a c, v = .slice a l.length c := by obtain ⟨a, c, h, _⟩ := hs.form; exact ⟨a, c, h⟩
  obtain ⟨n, hn⟩ : ∃ n, l.length = n := ⟨_, rfl⟩
  have HR := Lib.hid (look_bad (w.alloc (.cells #[.slice a n c] 24)) w0 hs hok hm hp htk (hw.alloc hw.size _) hr)
  rw [hn] at HR ⊢
  obtain ⟨r, hrr⟩ : ∃ r, rightE l = r := ⟨_, rfl⟩
  rw [hrr] at HR hr ⊢
  have e0 : ((r : Int) != 0) = true := by rw [bne_iff_ne]; omega
  clear hs hok hm hp hw hn hrr hr htk
  go_enter Tryz.func8, Tryz.ntmps8
  go_wp2_with (first
    | (go_at_call 19; go_must (refine HR.out.mono ?_); rintro e w3 ⟨rfl, hb⟩; have HB := Lib.hid hb; clear hb)
    | fail)
  go_ret3
  exact ⟨rfl, ((Below.refl _ _).alloc (Nat.le_refl _) _).trans (HB.out.mono (by simp <;> omega))⟩
set_option maxRecDepth 100000 in
set_option maxHeartbeats 4000000 in
theorem each_bad {l : List ND} {v : Value} (w w0 : World) (hs : SlR w0 w0.heap.size 4 (ND.Is w0 w0.heap.size) v l) (hok : ∀ d ∈ l, NdOk d) (hm : Marks w0) (hp : Pow w0) (htk : TakesB w0) (hw : Below w0.heap.size w0 w) (hr : rightE l ≠ 0) :
    Calls Tryz.prog 12 #[.agg #[v]] w fun e w' => e = .returned (.tuple #[.slice none 0 0, .int .i64 0, .int .i64 (rightE l : Int)]) ∧ Below w.heap.size w w' := by
  obtain ⟨a, c, rfl⟩ : ∃ a c, v = .slice a l.length c := by obtain ⟨a, c, h, _⟩ := hs.form; exact ⟨a, c, h⟩
  obtain ⟨n, hn⟩ : ∃ n, l.length = n := ⟨_, rfl⟩
  have HR := Lib.hid (look_bad (w.alloc (.cells #[.slice a n c] 24)) w0 hs hok hm hp htk (hw.alloc hw.size _) hr)
  rw [hn] at HR ⊢
  obtain ⟨r, hrr⟩ : ∃ r, rightE l = r := ⟨_, rfl⟩
  rw [hrr] at HR hr ⊢
  have e0 : ((r : Int) != 0) = true := by rw [bne_iff_ne]; omega
  clear hs hok hm hp hw hn hrr hr htk
  go_enter Tryz.func12, Tryz.ntmps12
  go_wp2_with (first
    | (go_at_call 19; go_must (refine HR.out.mono ?_); rintro e w3 ⟨rfl, hb⟩; have HB := Lib.hid hb; clear hb)
    | fail)
  go_ret3
  exact ⟨rfl, ((Below.refl _ _).alloc (Nat.le_refl _) _).trans (HB.out.mono (by simp <;> omega))⟩
set_option maxRecDepth 100000 in
set_option maxHeartbeats 4000000 in
theorem of_ok {t : Tr} {v : Value} (w w0 : World) (hs : SlR w0 w0.heap.size 4 (ND.Is w0 w0.heap.size) v (ndsT t 0)) (hok : ∀ d ∈ ndsT t 0, NdOk d) (hm : Marks w0) (hp : Pow w0) (htk : TakesB w0) (hw : Below w0.heap.size w0 w) (hg : t.Good) (hd : t.deep ≤ 32) (hsz : t.size ≤ 256) :
    Calls Tryz.prog 8 #[.agg #[v]] w fun e w' => e = .returned (.tuple #[.int .i64 (kindT t), .int .i64 (atN t), .int .i64 (errN (ndsT t 0) t)]) ∧ Below w.heap.size w w' := by
  have hnl : (ndsT t 0).length = t.size := nds_len t 0
  obtain ⟨a, c, rfl⟩ : ∃ a c, v = .slice a (ndsT t 0).length c := by obtain ⟨a, c, h, _⟩ := hs.form; exact ⟨a, c, h⟩
  have HR := Lib.hid (look_ok (w.alloc (.cells #[.slice a (ndsT t 0).length c] 24)) w0 hs hok hm hp htk (hw.alloc hw.size _) hg hd hsz)
  have HKL := Lib.hid (ksR_len 32 t [] hd)
  have HNL := Lib.hid hnl
  have HSZ := Lib.hid hsz
  obtain ⟨l, hl⟩ : ∃ l, ndsT t 0 = l := ⟨_, rfl⟩
  rw [hl] at HR HNL ⊢
  obtain ⟨n, hn⟩ : ∃ n, l.length = n := ⟨_, rfl⟩
  rw [hn] at HR ⊢
  have hk0 : (ksR 32 t [])[0]? = some (kR 32 t []) := by obtain ⟨k, s, m, ks⟩ := t; rw [ksR_succ]; rfl
  have HK0 := Lib.hid hk0
  have hpos : 1 ≤ t.size := by obtain ⟨k, s, m, ks⟩ := t; simp only [Tr.size]; omega
  have HN := Lib.hid hn
  have HPOS := Lib.hid hpos
  by_cases hwr : wR 32 t [] 0 < 0
  · have hat : atN t = 0 := by unfold atN; rw [if_pos hwr]
    have her : errN l t = 0 := by unfold errN; rw [if_pos hwr]
    have HWR := Lib.hid hwr
    have HE := Lib.hid (And.intro hat her)
    clear hs hok hm hp hw hn hg hd hsz htk hnl hl hk0 hpos hwr hat her
    go_enter Tryz.func8, Tryz.ntmps8
    go_wp2_with (first
      | (go_at_call 19; go_must (refine HR.out.mono ?_); rintro e w3 ⟨g, bm, kb, fm, nb, nf, K, rfl, hks, hkl, hkk, hb, hkb, _, _⟩; rw [HE.out.1, HE.out.2]; have hK := hkk HWR.out
         subst hK
         obtain ⟨nK, hnK⟩ : ∃ z, (ksR 32 t []).length = z := ⟨_, rfl⟩
         go_must (have c2 : w3.cell? ⟨g, 2, none⟩ = some (.slice (some ⟨kb, 0, none⟩) nK nK) := by rw [← hnK]; exact hks.blk.cell rfl)
         go_must (have y0 : w3.cell? ⟨kb, 0, none⟩ = some (.int .i64 (kR 32 t [])) := hks.cell HK0.out)
         go_must (have hnK1 : (0 : Int) < (nK : Int) := by rw [← hnK, HKL.out]; have := HPOS.out; omega)
         have HKS := Lib.hid (And.intro hks (And.intro hb (And.intro hkb hnK)))
         clear hks hkl hkk hb hkb hnK)
      | fail)
    go_ret3
    exact ⟨by unfold kindT; rw [if_pos HWR.out, HE.out.1, HE.out.2]; try rfl, ((Below.refl _ _).alloc (Nat.le_refl _) _).trans (HKS.out.2.1.mono (by simp <;> omega))⟩
  · have hat := err_ne (l := l) hwr
    obtain ⟨er, her⟩ : ∃ z, errN l t = z := ⟨_, rfl⟩
    rw [her] at hat
    have HER := Lib.hid her
    have HWR := Lib.hid hwr
    clear hs hok hm hp hw hn hg hd hsz htk hnl hl hk0 hpos hwr her
    go_enter Tryz.func8, Tryz.ntmps8
    go_wp2_with (first
      | (go_at_call 19; go_must (refine HR.out.mono ?_); rintro e w3 ⟨g, bm, kb, fm, nb, nf, K, rfl, hks, hkl, hkk, hb, hkb, _, _⟩; rw [HER.out]; have HKS := Lib.hid hb; clear hks hkl hkk hb hkb)
      | fail)
    go_ret3
    exact ⟨by unfold kindT; rw [if_neg (by have := HWR.out; omega), HER.out]; try rfl, ((Below.refl _ _).alloc (Nat.le_refl _) _).trans (HKS.out.mono (by simp <;> omega))⟩
set_option maxRecDepth 100000 in
set_option maxHeartbeats 4000000 in
theorem each_ok {t : Tr} {v : Value} (w w0 : World) (hs : SlR w0 w0.heap.size 4 (ND.Is w0 w0.heap.size) v (ndsT t 0)) (hok : ∀ d ∈ ndsT t 0, NdOk d) (hm : Marks w0) (hp : Pow w0) (htk : TakesB w0) (hw : Below w0.heap.size w0 w) (hg : t.Good) (hd : t.deep ≤ 32) (hsz : t.size ≤ 256) :
    Calls Tryz.prog 12 #[.agg #[v]] w fun e w' => ∃ sv, e = .returned (.tuple #[sv, .int .i64 (atN t), .int .i64 (errN (ndsT t 0) t)]) ∧ Own1 w' w.heap.size 3 1 IsI sv (kindsT t) ∧ Below w.heap.size w w' := by
  have hnl : (ndsT t 0).length = t.size := nds_len t 0
  obtain ⟨a, c, rfl⟩ : ∃ a c, v = .slice a (ndsT t 0).length c := by obtain ⟨a, c, h, _⟩ := hs.form; exact ⟨a, c, h⟩
  have HR := Lib.hid (look_ok (w.alloc (.cells #[.slice a (ndsT t 0).length c] 24)) w0 hs hok hm hp htk (hw.alloc hw.size _) hg hd hsz)
  have HKL := Lib.hid (ksR_len 32 t [] hd)
  have HNL := Lib.hid hnl
  have HSZ := Lib.hid hsz
  obtain ⟨l, hl⟩ : ∃ l, ndsT t 0 = l := ⟨_, rfl⟩
  rw [hl] at HR HNL ⊢
  obtain ⟨n, hn⟩ : ∃ n, l.length = n := ⟨_, rfl⟩
  rw [hn] at HR ⊢
  have hk0 : (ksR 32 t [])[0]? = some (kR 32 t []) := by obtain ⟨k, s, m, ks⟩ := t; rw [ksR_succ]; rfl
  have HK0 := Lib.hid hk0
  have hpos : 1 ≤ t.size := by obtain ⟨k, s, m, ks⟩ := t; simp only [Tr.size]; omega
  have HN := Lib.hid hn
  have HPOS := Lib.hid hpos
  by_cases hwr : wR 32 t [] 0 < 0
  · have hat : atN t = 0 := by unfold atN; rw [if_pos hwr]
    have her : errN l t = 0 := by unfold errN; rw [if_pos hwr]
    have HWR := Lib.hid hwr
    have HE := Lib.hid (And.intro hat her)
    clear hs hok hm hp hw hn hg hd hsz htk hnl hl hk0 hpos hwr hat her
    go_enter Tryz.func12, Tryz.ntmps12
    go_wp2_with (first
      | (go_at_call 19; go_must (refine HR.out.mono ?_); rintro e w3 ⟨g, bm, kb, fm, nb, nf, K, rfl, hks, hkl, hkk, hb, hkb, _, _⟩; rw [HE.out.1, HE.out.2]; have hK := hkk HWR.out
         subst hK
         obtain ⟨nK, hnK⟩ : ∃ z, (ksR 32 t []).length = z := ⟨_, rfl⟩
         go_must (have c2 : w3.cell? ⟨g, 2, none⟩ = some (.slice (some ⟨kb, 0, none⟩) nK nK) := by rw [← hnK]; exact hks.blk.cell rfl)
         go_must (have y0 : w3.cell? ⟨kb, 0, none⟩ = some (.int .i64 (kR 32 t [])) := hks.cell HK0.out)
         go_must (have hnK1 : (0 : Int) < (nK : Int) := by rw [← hnK, HKL.out]; have := HPOS.out; omega)
         have HKS := Lib.hid (And.intro hks (And.intro hb (And.intro hkb hnK)))
         clear hks hkl hkk hb hkb hnK)
      | fail)
    go_ret3
    refine ⟨.slice (some ⟨kb, 0, none⟩) nK nK, by rw [HE.out.1, HE.out.2]; try rfl, ?_, ((Below.refl _ _).alloc (Nat.le_refl _) _).trans (HKS.out.2.1.mono (by simp <;> omega))⟩
    have := Own1.ofInts (base := w.heap.size) HKS.out.1.kin (by have := HKS.out.2.2.1; simp at this; omega) (by rw [HKL.out]; have := HSZ.out; omega)
    rw [HKS.out.2.2.2] at this
    unfold kindsT
    rw [if_pos HWR.out]
    exact this
  · have hat := err_ne (l := l) hwr
    obtain ⟨er, her⟩ : ∃ z, errN l t = z := ⟨_, rfl⟩
    rw [her] at hat
    have HER := Lib.hid her
    have HWR := Lib.hid hwr
    clear hs hok hm hp hw hn hg hd hsz htk hnl hl hk0 hpos hwr her
    go_enter Tryz.func12, Tryz.ntmps12
    go_wp2_with (first
      | (go_at_call 19; go_must (refine HR.out.mono ?_); rintro e w3 ⟨g, bm, kb, fm, nb, nf, K, rfl, hks, hkl, hkk, hb, hkb, _, _⟩; rw [HER.out]; have HKS := Lib.hid hb; clear hks hkl hkk hb hkb)
      | fail)
    go_ret3
    refine ⟨.slice none 0 0, by rw [HER.out]; try rfl, by unfold kindsT; rw [if_neg (by have := HWR.out; omega)]; exact ⟨[], World.ownsRow_nil _ _ _ _, FlatR.nil_⟩, ((Below.refl _ _).alloc (Nat.le_refl _) _).trans (HKS.out.mono (by simp <;> omega))⟩
end Go.Proofs.YtidkbodmiegbkaaGreatDoor
