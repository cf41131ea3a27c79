/- The reference's bare, told: an expression's text. -/
import Derived.Test.YtlenenfgedgmhaaDoorMRm
import Derived.Test.YtlenenfgedgmhaaDoorMRt0
import Derived.Test.YtlenenfgedgmhaaDoorTl3
import Derived.Test.YtlenenfgedgmhaaDoorRef
import Derived.Deep.RegionHeld3
namespace Go.Proofs.YtlenenfgedgmhaaDoor
set_option linter.unusedSimpArgs false
set_option linter.unusedVariables false
open Go.RowKit

def ToldC (w0 : World) (l : List ND) (v : Value) (f : Nat) : Prop := ∀ (W : World) (m t : Nat), Below w0.heap.size w0 W → (∃ r, metN l f m = some r) → t ≤ 8 → Calls Tryd.prog 33 #[.agg #[v], .int .i64 (m : Int), .int .i64 (t : Int)] W fun e w' => e = .returned (.string (txt (tellN l f m t))) ∧ Below W.heap.size W w'
def BareC (w0 : World) (l : List ND) (v : Value) (f : Nat) : Prop := ∀ (W : World) (m : Nat) (d : ND) (kv : Value), Below w0.heap.size w0 W → l[m]? = some d → (∃ r, metN l (f + 1) m = some r) → SlR w0 w0.heap.size 1 IsI kv d.kids → Calls Tryd.prog 62 #[.agg #[v], .agg #[.int .i64 d.kind, .string (txt d.text), .int .i64 d.num, kv]] W fun e w' => e = .returned (.string (txt (bodyT (tellN l f) d))) ∧ Below W.heap.size W w'
/-- cells of old blocks, behind more memory -/
theorem cell_keep {W W' : World} (h : Below W.heap.size W W') {b i : Nat} {u : Value} (hc : W.cell? ⟨b, i, none⟩ = some u) : W'.cell? ⟨b, i, none⟩ = some u := by
  rw [h.cell (p := ⟨b, i, none⟩) (cell_lt hc)]
  exact hc

theorem kid_cells {w0 : World} {B : Nat} {kv : Value} {ks : List Int} (h : SlR w0 B 1 IsI kv ks) (h0 : 0 < ks.length) : ∃ bk ok kc, kv = .slice (some ⟨bk, ok, none⟩) ks.length kc ∧ ∀ i z, ks[i]? = some z → w0.cell? ⟨bk, ok + i, none⟩ = some (.int .i64 z) := by
  obtain ⟨a, c, rfl, _, _, h3⟩ := h
  obtain ⟨b, off, rfl, _, hat⟩ := h3 h0
  refine ⟨b, off, c, rfl, fun i z hz => ?_⟩
  obtain ⟨x, _, hx, hc⟩ := hat i z hz
  have hx : x = [.int .i64 z] := hx
  subst hx
  have := hc 0 _ rfl
  simpa using this

theorem wrap_small {z : Int} (h1 : 0 ≤ z) (h2 : z ≤ 9223372036854775807) : IntKind.i64.wrap z = z := by
  rw [IntKind.wrap_i64]
  omega
theorem lit_if : (⟨#[105, 102, 32]⟩ : ByteArray) = txt [105, 102, 32] := rfl
theorem lit_then : (⟨#[32, 116, 104, 101, 110, 32]⟩ : ByteArray) = txt [32, 116, 104, 101, 110, 32] := rfl
theorem lit_else : (⟨#[32, 101, 108, 115, 101, 32]⟩ : ByteArray) = txt [32, 101, 108, 115, 101, 32] := rfl
theorem lit_end : (⟨#[32, 101, 110, 100]⟩ : ByteArray) = txt [32, 101, 110, 100] := rfl
theorem lit_in : (⟨#[32, 105, 110, 32]⟩ : ByteArray) = txt [32, 105, 110, 32] := rfl
theorem lit_colon : (⟨#[58, 32]⟩ : ByteArray) = txt [58, 32] := rfl
theorem lit_open : (⟨#[40]⟩ : ByteArray) = txt [40] := rfl
theorem lit_close : (⟨#[41]⟩ : ByteArray) = txt [41] := rfl
theorem lit_not : (⟨#[110, 111, 116, 32]⟩ : ByteArray) = txt [110, 111, 116, 32] := rfl
theorem lit_txt : (⟨#[32]⟩ : ByteArray) = txt [32] := rfl
set_option maxRecDepth 100000 in
set_option maxHeartbeats 8000000 in
theorem bare_post {w0 : World} {l : List ND} {v : Value} {f : Nat} (HT : ToldC w0 l v f) (hlen : ∀ y r t, metN l f y = some r → (tellN l f y t).length ≤ 5120000) {x : List Nat × Nat × Nat} (hx : x ∈ signsL) (h7 : x.2.2 = 7) (s : List Nat) (hs : s.length ≤ 4096) (w : World) (hw : Below w0.heap.size w0 w) (y0 : Nat) (r0 : Nat × Nat) (hy0 : metN l f y0 = some r0) (kv : Value) (hkv : SlR w0 w0.heap.size 1 IsI kv [(y0 : Int)]) :
    Calls Tryd.prog 62 #[.agg #[v], .agg #[.int .i64 ((x.2.1 : Nat) : Int), .string (txt s), .int .i64 0, kv]] w fun e w' => e = .returned (.string (txt (tellN l f y0 (7) ++ (x.1 ++ s)))) ∧ Below w.heap.size w w' := by
  obtain ⟨e1, e2, e7, hl, _, _, _⟩ := postF x hx h7
  have hq : ((x.2.1 : Nat) : Int) = ((x.2.1 : Nat) : Int) := rfl
  have hsl := sig_signs x hx
  have zs : (txt s).size ≤ 4096 := by rw [txt_size]; exact hs
  have hml : x.1.length ≤ 8 := by
    have : ∀ x ∈ signsL, x.1.length ≤ 8 := by decide
    exact this x hx
  obtain ⟨bk, ok, kc, rfl, hck⟩ := kid_cells hkv (by simp)
  have hk0 : w0.cell? ⟨bk, ok, none⟩ = some (.int .i64 (y0 : Int)) := hck 0 _ rfl
  have hKL : ([(y0 : Int)] : List Int).length = 1 := rfl
  rw [hKL]
  have hT0 := hlen y0 r0 (7) hy0
  have TC0 : ∀ W, Below w0.heap.size w0 W → Calls Tryd.prog 33 #[.agg #[v], .int .i64 (y0 : Int), .int .i64 (7)] W fun e w' => e = .returned (.string (txt (tellN l f y0 (7)))) ∧ Below W.heap.size W w' := fun W hW => by
    have := HT W y0 (7) hW ⟨r0, hy0⟩ (by omega)
    skip
    exact this
  have TG : Hid (∀ W, Calls Tryd.prog 63 #[.int .i64 ((x.2.1 : Nat) : Int)] W fun e w' => e = .returned (.int .i64 7) ∧ w' = W) := Lib.hid (fun W => by have := r_tight ((x.2.1 : Nat) : Int) W; rw [hl] at this; exact this)
  have SG : Hid (∀ W, Calls Tryd.prog 89 #[.int .i64 ((x.2.1 : Nat) : Int)] W fun e w' => e = .returned (.string (txt x.1)) ∧ Below W.heap.size W w') := Lib.hid (fun W => r_sign hsl W)
  obtain ⟨T0, hTe0⟩ : ∃ T, tellN l f y0 (7) = T := ⟨_, rfl⟩
  rw [hTe0] at TC0 hT0 ⊢
  have zT0 : (txt T0).size ≤ 5120000 := by rw [txt_size]; exact hT0
  have zm : (txt x.1).size ≤ 8 := by rw [txt_size]; exact hml
  obtain ⟨mk, hmk⟩ : ∃ z, x.1 = z := ⟨_, rfl⟩
  rw [hmk] at SG zm ⊢
  obtain ⟨kz, hkz⟩ : ∃ z, ((x.2.1 : Nat) : Int) = z := ⟨_, rfl⟩
  rw [hkz] at TG SG e1 e2 e7 hq ⊢
  have q1 : (kz == 1) = false := by simpa using e1
  have q2 : (kz == 2) = false := by simpa using e2
  have q7 : (kz == 7) = false := by simpa using e7
  clear hx h7 hsl hl hml e1 e2 e7 hq hkz hmk hs
  have z0 : ¬ 9223372036854775807 < (txt T0).size + (txt mk).size := by omega
  have z1 : ¬ 9223372036854775807 < (txt T0).size + (txt mk).size + (txt s).size := by omega
  have HV : Hid (txt T0 ++ txt mk ++ txt s = txt (T0 ++ (mk ++ s))) := Lib.hid (by first | (simp only [lit_txt, lit_if, lit_then, lit_else, lit_end, lit_in, lit_colon, lit_open, lit_close, lit_not, txt_app, List.append_assoc]; done) | (rw [← txt_app]; rfl))
  have BW : Hid (Below w.heap.size w ((w.alloc (.cells #[v] 24)).alloc (.cells #[.int .i64 kz, .string (txt s), .int .i64 0, .slice (some ⟨bk, ok, none⟩) 1 kc] 46))) := Lib.hid (((Below.refl _ _).alloc (Nat.le_refl _) _).alloc (by rw [World.size_alloc]; omega) _)
  have HE : Hid (Blk ((w.alloc (.cells #[v] 24)).alloc (.cells #[.int .i64 kz, .string (txt s), .int .i64 0, .slice (some ⟨bk, ok, none⟩) 1 kc] 46)) w.heap.size 24 #[v]) := Lib.hid ((Blk.new _ _ _).alloc _)
  have HNB : Hid (Blk ((w.alloc (.cells #[v] 24)).alloc (.cells #[.int .i64 kz, .string (txt s), .int .i64 0, .slice (some ⟨bk, ok, none⟩) 1 kc] 46)) (w.heap.size + 1) 46 #[.int .i64 kz, .string (txt s), .int .i64 0, .slice (some ⟨bk, ok, none⟩) 1 kc]) := Lib.hid (Blk.new_ (by rw [World.size_alloc]) _ _)
  have HW0 := Lib.hid (hw.trans (BW.out.mono hw.size))
  have HK0 := Lib.hid hk0
  have HTC0 := Lib.hid TC0
  clear hw hkv hck hKL HT hlen hy0 hk0 hT0 TC0 hTe0 zT0 zm
  go_enter Tryd.func62, Tryd.ntmps62
  go_wp2_with (first
    | (go_at_call 63; refine (TG.out _).mono ?_; rintro e w9 ⟨rfl, rfl⟩))
  generalize hw2 : World.alloc (World.alloc w _) _ = w2
  rw [hw2] at BW HE HNB HW0
  have BB0 : Hid (Below w2.heap.size w2 w2) := Lib.hid (Below.refl _ _)
  have k0 : w2.cell? ⟨w.heap.size, 0, none⟩ = some v := HE.out.cell (i := 0) rfl
  have k1 : w2.cell? ⟨w.heap.size + 1, 0, none⟩ = some (.int .i64 kz) := HNB.out.cell (i := 0) rfl
  have k2 : w2.cell? ⟨w.heap.size + 1, 1, none⟩ = some (.string (txt s)) := HNB.out.cell (i := 1) rfl
  have k3 : w2.cell? ⟨w.heap.size + 1, 3, none⟩ = some (.slice (some ⟨bk, ok, none⟩) 1 kc) := HNB.out.cell (i := 3) rfl
  have k4 : w2.cell? ⟨bk, ok, none⟩ = some (.int .i64 (y0 : Int)) := by rw [HW0.out.cell (p := ⟨bk, ok, none⟩) (cell_lt HK0.out)]; exact HK0.out
  clear hw2
  have keepS : ∀ {W : World}, Below w2.heap.size w2 W → (W.cell? ⟨w.heap.size, 0, none⟩ = some (v) ∧ W.cell? ⟨w.heap.size + 1, 0, none⟩ = some (.int .i64 kz) ∧ W.cell? ⟨w.heap.size + 1, 1, none⟩ = some (.string (txt s)) ∧ W.cell? ⟨w.heap.size + 1, 3, none⟩ = some (.slice (some ⟨bk, ok, none⟩) 1 kc) ∧ W.cell? ⟨bk, ok, none⟩ = some (.int .i64 (y0 : Int))) := fun h => ⟨cell_keep h k0, cell_keep h k1, cell_keep h k2, cell_keep h k3, cell_keep h k4⟩
  have tokA : True := trivial
  have tokS : True := trivial
  go_region_held3 (fun W => W.cell? ⟨w.heap.size, 0, none⟩ = some (v) ∧ W.cell? ⟨w.heap.size + 1, 0, none⟩ = some (.int .i64 kz) ∧ W.cell? ⟨w.heap.size + 1, 1, none⟩ = some (.string (txt s)) ∧ W.cell? ⟨w.heap.size + 1, 3, none⟩ = some (.slice (some ⟨bk, ok, none⟩) 1 kc) ∧ W.cell? ⟨bk, ok, none⟩ = some (.int .i64 (y0 : Int)))
    (first
      | go_keep
      | (have _k := KA; exact KA)
      | (have _k := KS; exact KS)
      | fail)
    (first
      | (go_at_call 33
         have _t := tokA
         with_reducible refine (HTC0.out _ (by first | exact HW0.out.trans (BBA.out.mono HW0.out.size) | exact HW0.out.trans (BBS.out.mono HW0.out.size) | exact (HW0.out.trans (BBA.out.mono HW0.out.size)).drew | exact (HW0.out.trans (BBS.out.mono HW0.out.size)).drew | exact HW0.out | exact HW0.out.drew | exact below_drewN HW0.out _)).mono ?_
         rintro e wA ⟨rfl, bA⟩
         have BBA : Hid (Below w2.heap.size w2 wA) := Lib.hid (by first | exact BBA.out.trans (bA.mono BBA.out.size) | exact BBS.out.trans (bA.mono BBS.out.size) | exact BBA.out.drew.trans (bA.mono BBA.out.size) | exact BBS.out.drew.trans (bA.mono BBS.out.size) | exact ⟨bA.os, bA.tape, bA.output, bA.size, bA.block⟩)
         have KA : (wA.cell? ⟨w.heap.size, 0, none⟩ = some (v) ∧ wA.cell? ⟨w.heap.size + 1, 0, none⟩ = some (.int .i64 kz) ∧ wA.cell? ⟨w.heap.size + 1, 1, none⟩ = some (.string (txt s)) ∧ wA.cell? ⟨w.heap.size + 1, 3, none⟩ = some (.slice (some ⟨bk, ok, none⟩) 1 kc) ∧ wA.cell? ⟨bk, ok, none⟩ = some (.int .i64 (y0 : Int))) := keepS BBA.out
         clear bA tokA _t)
      | (go_at_call 89
         have _t := tokS
         with_reducible refine (SG.out _).mono ?_
         rintro e wS ⟨rfl, bS⟩
         have BBS : Hid (Below w2.heap.size w2 wS) := Lib.hid (by first | exact BBA.out.trans (bS.mono BBA.out.size) | exact BBS.out.trans (bS.mono BBS.out.size) | exact BBA.out.drew.trans (bS.mono BBA.out.size) | exact BBS.out.drew.trans (bS.mono BBS.out.size) | exact ⟨bS.os, bS.tape, bS.output, bS.size, bS.block⟩)
         have KS : (wS.cell? ⟨w.heap.size, 0, none⟩ = some (v) ∧ wS.cell? ⟨w.heap.size + 1, 0, none⟩ = some (.int .i64 kz) ∧ wS.cell? ⟨w.heap.size + 1, 1, none⟩ = some (.string (txt s)) ∧ wS.cell? ⟨w.heap.size + 1, 3, none⟩ = some (.slice (some ⟨bk, ok, none⟩) 1 kc) ∧ wS.cell? ⟨bk, ok, none⟩ = some (.int .i64 (y0 : Int))) := keepS BBS.out
         clear bS tokS _t)
      | fail)
  all_goals
    go_wp2_with fail
    go_ret
    exact ⟨by rw [HV.out]; rfl, by first | exact BW.out.trans (BBA.out.mono BW.out.size) | exact BW.out.trans (BBS.out.mono BW.out.size) | exact (BW.out.trans (BBA.out.mono BW.out.size)).drew | exact (BW.out.trans (BBS.out.mono BW.out.size)).drew⟩
set_option maxRecDepth 100000 in
set_option maxHeartbeats 8000000 in
theorem bare_not {w0 : World} {l : List ND} {v : Value} {f : Nat} (HT : ToldC w0 l v f) (hlen : ∀ y r t, metN l f y = some r → (tellN l f y t).length ≤ 5120000)  (w : World) (hw : Below w0.heap.size w0 w) (y0 : Nat) (r0 : Nat × Nat) (hy0 : metN l f y0 = some r0) (kv : Value) (hkv : SlR w0 w0.heap.size 1 IsI kv [(y0 : Int)]) :
    Calls Tryd.prog 62 #[.agg #[v], .agg #[.int .i64 (29 : Int), .string (txt []), .int .i64 0, kv]] w fun e w' => e = .returned (.string (txt ([110, 111, 116, 32] ++ tellN l f y0 (3)))) ∧ Below w.heap.size w w' := by
  skip
  obtain ⟨bk, ok, kc, rfl, hck⟩ := kid_cells hkv (by simp)
  have hk0 : w0.cell? ⟨bk, ok, none⟩ = some (.int .i64 (y0 : Int)) := hck 0 _ rfl
  have hKL : ([(y0 : Int)] : List Int).length = 1 := rfl
  rw [hKL]
  have hT0 := hlen y0 r0 (3) hy0
  have TC0 : ∀ W, Below w0.heap.size w0 W → Calls Tryd.prog 33 #[.agg #[v], .int .i64 (y0 : Int), .int .i64 (3)] W fun e w' => e = .returned (.string (txt (tellN l f y0 (3)))) ∧ Below W.heap.size W w' := fun W hW => by
    have := HT W y0 (3) hW ⟨r0, hy0⟩ (by omega)
    skip
    exact this
  have TG : Hid (∀ W, Calls Tryd.prog 63 #[.int .i64 (29 : Int)] W fun e w' => e = .returned (.int .i64 3) ∧ w' = W) := Lib.hid (fun W => by have := r_tight (29 : Int) W; exact this)
  obtain ⟨T0, hTe0⟩ : ∃ T, tellN l f y0 (3) = T := ⟨_, rfl⟩
  rw [hTe0] at TC0 hT0 ⊢
  have zT0 : (txt T0).size ≤ 5120000 := by rw [txt_size]; exact hT0
  skip
  have z0 : ¬ 9223372036854775807 < 4 + (txt T0).size := by omega
  have HV : Hid ((⟨#[110, 111, 116, 32]⟩ : ByteArray) ++ txt T0 = txt ([110, 111, 116, 32] ++ T0)) := Lib.hid (by first | (simp only [lit_txt, lit_if, lit_then, lit_else, lit_end, lit_in, lit_colon, lit_open, lit_close, lit_not, txt_app, List.append_assoc]; done) | (rw [← txt_app]; rfl))
  have BW : Hid (Below w.heap.size w ((w.alloc (.cells #[v] 24)).alloc (.cells #[.int .i64 (29 : Int), .string (txt []), .int .i64 0, .slice (some ⟨bk, ok, none⟩) 1 kc] 46))) := Lib.hid (((Below.refl _ _).alloc (Nat.le_refl _) _).alloc (by rw [World.size_alloc]; omega) _)
  have HE : Hid (Blk ((w.alloc (.cells #[v] 24)).alloc (.cells #[.int .i64 (29 : Int), .string (txt []), .int .i64 0, .slice (some ⟨bk, ok, none⟩) 1 kc] 46)) w.heap.size 24 #[v]) := Lib.hid ((Blk.new _ _ _).alloc _)
  have HNB : Hid (Blk ((w.alloc (.cells #[v] 24)).alloc (.cells #[.int .i64 (29 : Int), .string (txt []), .int .i64 0, .slice (some ⟨bk, ok, none⟩) 1 kc] 46)) (w.heap.size + 1) 46 #[.int .i64 (29 : Int), .string (txt []), .int .i64 0, .slice (some ⟨bk, ok, none⟩) 1 kc]) := Lib.hid (Blk.new_ (by rw [World.size_alloc]) _ _)
  have HW0 := Lib.hid (hw.trans (BW.out.mono hw.size))
  have HK0 := Lib.hid hk0
  have HTC0 := Lib.hid TC0
  clear hw hkv hck hKL HT hlen hy0 hk0 hT0 TC0 hTe0 zT0
  go_enter Tryd.func62, Tryd.ntmps62
  go_wp2_with (first
    | (go_at_call 63; refine (TG.out _).mono ?_; rintro e w9 ⟨rfl, rfl⟩))
  generalize hw2 : World.alloc (World.alloc w _) _ = w2
  rw [hw2] at BW HE HNB HW0
  have BB0 : Hid (Below w2.heap.size w2 w2) := Lib.hid (Below.refl _ _)
  have k0 : w2.cell? ⟨w.heap.size, 0, none⟩ = some v := HE.out.cell (i := 0) rfl
  have k1 : w2.cell? ⟨w.heap.size + 1, 0, none⟩ = some (.int .i64 (29 : Int)) := HNB.out.cell (i := 0) rfl
  have k2 : w2.cell? ⟨w.heap.size + 1, 1, none⟩ = some (.string (txt [])) := HNB.out.cell (i := 1) rfl
  have k3 : w2.cell? ⟨w.heap.size + 1, 3, none⟩ = some (.slice (some ⟨bk, ok, none⟩) 1 kc) := HNB.out.cell (i := 3) rfl
  have k4 : w2.cell? ⟨bk, ok, none⟩ = some (.int .i64 (y0 : Int)) := by rw [HW0.out.cell (p := ⟨bk, ok, none⟩) (cell_lt HK0.out)]; exact HK0.out
  clear hw2
  have keepS : ∀ {W : World}, Below w2.heap.size w2 W → (W.cell? ⟨w.heap.size, 0, none⟩ = some (v) ∧ W.cell? ⟨w.heap.size + 1, 0, none⟩ = some (.int .i64 (29 : Int)) ∧ W.cell? ⟨w.heap.size + 1, 1, none⟩ = some (.string (txt [])) ∧ W.cell? ⟨w.heap.size + 1, 3, none⟩ = some (.slice (some ⟨bk, ok, none⟩) 1 kc) ∧ W.cell? ⟨bk, ok, none⟩ = some (.int .i64 (y0 : Int))) := fun h => ⟨cell_keep h k0, cell_keep h k1, cell_keep h k2, cell_keep h k3, cell_keep h k4⟩
  have tokA : True := trivial
  go_region_held3 (fun W => W.cell? ⟨w.heap.size, 0, none⟩ = some (v) ∧ W.cell? ⟨w.heap.size + 1, 0, none⟩ = some (.int .i64 (29 : Int)) ∧ W.cell? ⟨w.heap.size + 1, 1, none⟩ = some (.string (txt [])) ∧ W.cell? ⟨w.heap.size + 1, 3, none⟩ = some (.slice (some ⟨bk, ok, none⟩) 1 kc) ∧ W.cell? ⟨bk, ok, none⟩ = some (.int .i64 (y0 : Int)))
    (first
      | go_keep
      | (have _k := KA; exact KA)
      | fail)
    (first
      | (go_at_call 33
         have _t := tokA
         with_reducible refine (HTC0.out _ (by first | exact HW0.out.trans (BBA.out.mono HW0.out.size) | exact (HW0.out.trans (BBA.out.mono HW0.out.size)).drew | exact HW0.out | exact HW0.out.drew | exact below_drewN HW0.out _)).mono ?_
         rintro e wA ⟨rfl, bA⟩
         have BBA : Hid (Below w2.heap.size w2 wA) := Lib.hid (by first | exact BBA.out.trans (bA.mono BBA.out.size) | exact BBA.out.drew.trans (bA.mono BBA.out.size) | exact ⟨bA.os, bA.tape, bA.output, bA.size, bA.block⟩)
         have KA : (wA.cell? ⟨w.heap.size, 0, none⟩ = some (v) ∧ wA.cell? ⟨w.heap.size + 1, 0, none⟩ = some (.int .i64 (29 : Int)) ∧ wA.cell? ⟨w.heap.size + 1, 1, none⟩ = some (.string (txt [])) ∧ wA.cell? ⟨w.heap.size + 1, 3, none⟩ = some (.slice (some ⟨bk, ok, none⟩) 1 kc) ∧ wA.cell? ⟨bk, ok, none⟩ = some (.int .i64 (y0 : Int))) := keepS BBA.out
         clear bA tokA _t)
      | fail)
  all_goals
    go_wp2_with fail
    go_ret
    exact ⟨by rw [HV.out]; rfl, by first | exact BW.out.trans (BBA.out.mono BW.out.size) | exact (BW.out.trans (BBA.out.mono BW.out.size)).drew⟩
set_option maxRecDepth 100000 in
set_option maxHeartbeats 8000000 in
theorem bare_bin4 {w0 : World} {l : List ND} {v : Value} {f : Nat} (HT : ToldC w0 l v f) (hlen : ∀ y r t, metN l f y = some r → (tellN l f y t).length ≤ 5120000) {x : List Nat × Nat × Nat} (hx : x ∈ signsL) (h4 : x.2.2 = 4) (w : World) (hw : Below w0.heap.size w0 w) (y0 : Nat) (r0 : Nat × Nat) (hy0 : metN l f y0 = some r0) (y1 : Nat) (r1 : Nat × Nat) (hy1 : metN l f y1 = some r1) (kv : Value) (hkv : SlR w0 w0.heap.size 1 IsI kv [(y0 : Int), (y1 : Int)]) :
    Calls Tryd.prog 62 #[.agg #[v], .agg #[.int .i64 ((x.2.1 : Nat) : Int), .string (txt []), .int .i64 0, kv]] w fun e w' => e = .returned (.string (txt (tellN l f y0 (5) ++ (([32] ++ x.1) ++ [32]) ++ tellN l f y1 (5)))) ∧ Below w.heap.size w w' := by
  have h7 : x.2.2 < 7 := by omega
  obtain ⟨e1, e2, e7, hq, hl, _, _, _, hl1, hl3⟩ := binF x hx h7
  have hsl := sig_signs x hx
  have hml : x.1.length ≤ 8 := by
    have : ∀ x ∈ signsL, x.1.length ≤ 8 := by decide
    exact this x hx
  rw [h4] at hl
  obtain ⟨bk, ok, kc, rfl, hck⟩ := kid_cells hkv (by simp)
  have hk0 : w0.cell? ⟨bk, ok, none⟩ = some (.int .i64 (y0 : Int)) := hck 0 _ rfl
  have hk1 : w0.cell? ⟨bk, ok + 1, none⟩ = some (.int .i64 (y1 : Int)) := hck 1 _ rfl
  have hKL : ([(y0 : Int), (y1 : Int)] : List Int).length = 2 := rfl
  rw [hKL]
  have hT0 := hlen y0 r0 (5) hy0
  have TC0 : ∀ W, Below w0.heap.size w0 W → Calls Tryd.prog 33 #[.agg #[v], .int .i64 (y0 : Int), .int .i64 (5)] W fun e w' => e = .returned (.string (txt (tellN l f y0 (5)))) ∧ Below W.heap.size W w' := fun W hW => by
    have := HT W y0 (5) hW ⟨r0, hy0⟩ (by omega)
    skip
    exact this
  have hT1 := hlen y1 r1 (5) hy1
  have TC1 : ∀ W, Below w0.heap.size w0 W → Calls Tryd.prog 33 #[.agg #[v], .int .i64 (y1 : Int), .int .i64 (5)] W fun e w' => e = .returned (.string (txt (tellN l f y1 (5)))) ∧ Below W.heap.size W w' := fun W hW => by
    have := HT W y1 (5) hW ⟨r1, hy1⟩ (by omega)
    skip
    exact this
  have TG : Hid (∀ W, Calls Tryd.prog 63 #[.int .i64 ((x.2.1 : Nat) : Int)] W fun e w' => e = .returned (.int .i64 4) ∧ w' = W) := Lib.hid (fun W => by have := r_tight ((x.2.1 : Nat) : Int) W; rw [hl] at this; exact this)
  have SG : Hid (∀ W, Calls Tryd.prog 89 #[.int .i64 ((x.2.1 : Nat) : Int)] W fun e w' => e = .returned (.string (txt x.1)) ∧ Below W.heap.size W w') := Lib.hid (fun W => r_sign hsl W)
  obtain ⟨T0, hTe0⟩ : ∃ T, tellN l f y0 (5) = T := ⟨_, rfl⟩
  rw [hTe0] at TC0 hT0 ⊢
  have zT0 : (txt T0).size ≤ 5120000 := by rw [txt_size]; exact hT0
  obtain ⟨T1, hTe1⟩ : ∃ T, tellN l f y1 (5) = T := ⟨_, rfl⟩
  rw [hTe1] at TC1 hT1 ⊢
  have zT1 : (txt T1).size ≤ 5120000 := by rw [txt_size]; exact hT1
  have zm : (txt x.1).size ≤ 8 := by rw [txt_size]; exact hml
  obtain ⟨mk, hmk⟩ : ∃ z, x.1 = z := ⟨_, rfl⟩
  rw [hmk] at SG zm ⊢
  obtain ⟨kz, hkz⟩ : ∃ z, ((x.2.1 : Nat) : Int) = z := ⟨_, rfl⟩
  rw [hkz] at TG SG e1 e2 e7 hq ⊢
  have q1 : (kz == 1) = false := by simpa using e1
  have q2 : (kz == 2) = false := by simpa using e2
  have q7 : (kz == 7) = false := by simpa using e7
  clear hx h7 h4 hsl hl hml e1 e2 e7 hq hkz hmk hl1 hl3
  have z0 : ¬ 9223372036854775807 < (txt T0).size + 1 := by omega
  have z1 : ¬ 9223372036854775807 < (txt T0).size + 1 + (txt mk).size := by omega
  have z2 : ¬ 9223372036854775807 < (txt T0).size + 1 + (txt mk).size + 1 := by omega
  have z3 : ¬ 9223372036854775807 < (txt T0).size + 1 + (txt mk).size + 1 + (txt T1).size := by omega
  have HV : Hid (txt T0 ++ (⟨#[32]⟩ : ByteArray) ++ txt mk ++ (⟨#[32]⟩ : ByteArray) ++ txt T1 = txt (T0 ++ (([32] ++ mk) ++ [32]) ++ T1)) := Lib.hid (by first | (simp only [lit_txt, lit_if, lit_then, lit_else, lit_end, lit_in, lit_colon, lit_open, lit_close, lit_not, txt_app, List.append_assoc]; done) | (rw [← txt_app]; rfl))
  have BW : Hid (Below w.heap.size w ((w.alloc (.cells #[v] 24)).alloc (.cells #[.int .i64 kz, .string (txt []), .int .i64 0, .slice (some ⟨bk, ok, none⟩) 2 kc] 46))) := Lib.hid (((Below.refl _ _).alloc (Nat.le_refl _) _).alloc (by rw [World.size_alloc]; omega) _)
  have HE : Hid (Blk ((w.alloc (.cells #[v] 24)).alloc (.cells #[.int .i64 kz, .string (txt []), .int .i64 0, .slice (some ⟨bk, ok, none⟩) 2 kc] 46)) w.heap.size 24 #[v]) := Lib.hid ((Blk.new _ _ _).alloc _)
  have HNB : Hid (Blk ((w.alloc (.cells #[v] 24)).alloc (.cells #[.int .i64 kz, .string (txt []), .int .i64 0, .slice (some ⟨bk, ok, none⟩) 2 kc] 46)) (w.heap.size + 1) 46 #[.int .i64 kz, .string (txt []), .int .i64 0, .slice (some ⟨bk, ok, none⟩) 2 kc]) := Lib.hid (Blk.new_ (by rw [World.size_alloc]) _ _)
  have HW0 := Lib.hid (hw.trans (BW.out.mono hw.size))
  have HK0 := Lib.hid hk0
  have HTC0 := Lib.hid TC0
  have HK1 := Lib.hid hk1
  have HTC1 := Lib.hid TC1
  clear hw hkv hck hKL HT hlen hy0 hk0 hT0 TC0 hTe0 zT0 hy1 hk1 hT1 TC1 hTe1 zT1 zm
  go_enter Tryd.func62, Tryd.ntmps62
  go_wp2_with (first
    | (go_at_call 63; refine (TG.out _).mono ?_; rintro e w9 ⟨rfl, rfl⟩))
  generalize hw2 : World.alloc (World.alloc w _) _ = w2
  rw [hw2] at BW HE HNB HW0
  have BB0 : Hid (Below w2.heap.size w2 w2) := Lib.hid (Below.refl _ _)
  have k0 : w2.cell? ⟨w.heap.size, 0, none⟩ = some v := HE.out.cell (i := 0) rfl
  have k1 : w2.cell? ⟨w.heap.size + 1, 0, none⟩ = some (.int .i64 kz) := HNB.out.cell (i := 0) rfl
  have k2 : w2.cell? ⟨w.heap.size + 1, 1, none⟩ = some (.string (txt [])) := HNB.out.cell (i := 1) rfl
  have k3 : w2.cell? ⟨w.heap.size + 1, 3, none⟩ = some (.slice (some ⟨bk, ok, none⟩) 2 kc) := HNB.out.cell (i := 3) rfl
  have k4 : w2.cell? ⟨bk, ok, none⟩ = some (.int .i64 (y0 : Int)) := by rw [HW0.out.cell (p := ⟨bk, ok, none⟩) (cell_lt HK0.out)]; exact HK0.out
  have k5 : w2.cell? ⟨bk, ok + 1, none⟩ = some (.int .i64 (y1 : Int)) := by rw [HW0.out.cell (p := ⟨bk, ok + 1, none⟩) (cell_lt HK1.out)]; exact HK1.out
  clear hw2
  have keepS : ∀ {W : World}, Below w2.heap.size w2 W → (W.cell? ⟨w.heap.size, 0, none⟩ = some (v) ∧ W.cell? ⟨w.heap.size + 1, 0, none⟩ = some (.int .i64 kz) ∧ W.cell? ⟨w.heap.size + 1, 1, none⟩ = some (.string (txt [])) ∧ W.cell? ⟨w.heap.size + 1, 3, none⟩ = some (.slice (some ⟨bk, ok, none⟩) 2 kc) ∧ W.cell? ⟨bk, ok, none⟩ = some (.int .i64 (y0 : Int)) ∧ W.cell? ⟨bk, ok + 1, none⟩ = some (.int .i64 (y1 : Int))) := fun h => ⟨cell_keep h k0, cell_keep h k1, cell_keep h k2, cell_keep h k3, cell_keep h k4, cell_keep h k5⟩
  have tokA : True := trivial
  have tokB : True := trivial
  have tokS : True := trivial
  go_region_held3 (fun W => W.cell? ⟨w.heap.size, 0, none⟩ = some (v) ∧ W.cell? ⟨w.heap.size + 1, 0, none⟩ = some (.int .i64 kz) ∧ W.cell? ⟨w.heap.size + 1, 1, none⟩ = some (.string (txt [])) ∧ W.cell? ⟨w.heap.size + 1, 3, none⟩ = some (.slice (some ⟨bk, ok, none⟩) 2 kc) ∧ W.cell? ⟨bk, ok, none⟩ = some (.int .i64 (y0 : Int)) ∧ W.cell? ⟨bk, ok + 1, none⟩ = some (.int .i64 (y1 : Int)))
    (first
      | go_keep
      | (have _k := KA; exact KA)
      | (have _k := KB; exact KB)
      | (have _k := KS; exact KS)
      | fail)
    (first
      | (go_at_call 33
         have _t := tokA
         with_reducible refine (HTC0.out _ (by first | exact HW0.out.trans (BBA.out.mono HW0.out.size) | exact HW0.out.trans (BBB.out.mono HW0.out.size) | exact HW0.out.trans (BBS.out.mono HW0.out.size) | exact (HW0.out.trans (BBA.out.mono HW0.out.size)).drew | exact (HW0.out.trans (BBB.out.mono HW0.out.size)).drew | exact (HW0.out.trans (BBS.out.mono HW0.out.size)).drew | exact HW0.out | exact HW0.out.drew | exact below_drewN HW0.out _)).mono ?_
         rintro e wA ⟨rfl, bA⟩
         have BBA : Hid (Below w2.heap.size w2 wA) := Lib.hid (by first | exact BBA.out.trans (bA.mono BBA.out.size) | exact BBB.out.trans (bA.mono BBB.out.size) | exact BBS.out.trans (bA.mono BBS.out.size) | exact BBA.out.drew.trans (bA.mono BBA.out.size) | exact BBB.out.drew.trans (bA.mono BBB.out.size) | exact BBS.out.drew.trans (bA.mono BBS.out.size) | exact ⟨bA.os, bA.tape, bA.output, bA.size, bA.block⟩)
         have KA : (wA.cell? ⟨w.heap.size, 0, none⟩ = some (v) ∧ wA.cell? ⟨w.heap.size + 1, 0, none⟩ = some (.int .i64 kz) ∧ wA.cell? ⟨w.heap.size + 1, 1, none⟩ = some (.string (txt [])) ∧ wA.cell? ⟨w.heap.size + 1, 3, none⟩ = some (.slice (some ⟨bk, ok, none⟩) 2 kc) ∧ wA.cell? ⟨bk, ok, none⟩ = some (.int .i64 (y0 : Int)) ∧ wA.cell? ⟨bk, ok + 1, none⟩ = some (.int .i64 (y1 : Int))) := keepS BBA.out
         clear bA tokA _t)
      | (go_at_call 33
         have _t := tokB
         with_reducible refine (HTC1.out _ (by first | exact HW0.out.trans (BBA.out.mono HW0.out.size) | exact HW0.out.trans (BBB.out.mono HW0.out.size) | exact HW0.out.trans (BBS.out.mono HW0.out.size) | exact (HW0.out.trans (BBA.out.mono HW0.out.size)).drew | exact (HW0.out.trans (BBB.out.mono HW0.out.size)).drew | exact (HW0.out.trans (BBS.out.mono HW0.out.size)).drew | exact HW0.out | exact HW0.out.drew | exact below_drewN HW0.out _)).mono ?_
         rintro e wB ⟨rfl, bB⟩
         have BBB : Hid (Below w2.heap.size w2 wB) := Lib.hid (by first | exact BBA.out.trans (bB.mono BBA.out.size) | exact BBB.out.trans (bB.mono BBB.out.size) | exact BBS.out.trans (bB.mono BBS.out.size) | exact BBA.out.drew.trans (bB.mono BBA.out.size) | exact BBB.out.drew.trans (bB.mono BBB.out.size) | exact BBS.out.drew.trans (bB.mono BBS.out.size) | exact ⟨bB.os, bB.tape, bB.output, bB.size, bB.block⟩)
         have KB : (wB.cell? ⟨w.heap.size, 0, none⟩ = some (v) ∧ wB.cell? ⟨w.heap.size + 1, 0, none⟩ = some (.int .i64 kz) ∧ wB.cell? ⟨w.heap.size + 1, 1, none⟩ = some (.string (txt [])) ∧ wB.cell? ⟨w.heap.size + 1, 3, none⟩ = some (.slice (some ⟨bk, ok, none⟩) 2 kc) ∧ wB.cell? ⟨bk, ok, none⟩ = some (.int .i64 (y0 : Int)) ∧ wB.cell? ⟨bk, ok + 1, none⟩ = some (.int .i64 (y1 : Int))) := keepS BBB.out
         clear bB tokB _t)
      | (go_at_call 89
         have _t := tokS
         with_reducible refine (SG.out _).mono ?_
         rintro e wS ⟨rfl, bS⟩
         have BBS : Hid (Below w2.heap.size w2 wS) := Lib.hid (by first | exact BBA.out.trans (bS.mono BBA.out.size) | exact BBB.out.trans (bS.mono BBB.out.size) | exact BBS.out.trans (bS.mono BBS.out.size) | exact BBA.out.drew.trans (bS.mono BBA.out.size) | exact BBB.out.drew.trans (bS.mono BBB.out.size) | exact BBS.out.drew.trans (bS.mono BBS.out.size) | exact ⟨bS.os, bS.tape, bS.output, bS.size, bS.block⟩)
         have KS : (wS.cell? ⟨w.heap.size, 0, none⟩ = some (v) ∧ wS.cell? ⟨w.heap.size + 1, 0, none⟩ = some (.int .i64 kz) ∧ wS.cell? ⟨w.heap.size + 1, 1, none⟩ = some (.string (txt [])) ∧ wS.cell? ⟨w.heap.size + 1, 3, none⟩ = some (.slice (some ⟨bk, ok, none⟩) 2 kc) ∧ wS.cell? ⟨bk, ok, none⟩ = some (.int .i64 (y0 : Int)) ∧ wS.cell? ⟨bk, ok + 1, none⟩ = some (.int .i64 (y1 : Int))) := keepS BBS.out
         clear bS tokS _t)
      | fail)
  all_goals
    go_wp2_with fail
    go_ret
    exact ⟨by rw [HV.out]; rfl, by first | exact BW.out.trans (BBA.out.mono BW.out.size) | exact BW.out.trans (BBB.out.mono BW.out.size) | exact BW.out.trans (BBS.out.mono BW.out.size) | exact (BW.out.trans (BBA.out.mono BW.out.size)).drew | exact (BW.out.trans (BBB.out.mono BW.out.size)).drew | exact (BW.out.trans (BBS.out.mono BW.out.size)).drew⟩
set_option maxRecDepth 100000 in
set_option maxHeartbeats 8000000 in
theorem bare_bin {w0 : World} {l : List ND} {v : Value} {f : Nat} (HT : ToldC w0 l v f) (hlen : ∀ y r t, metN l f y = some r → (tellN l f y t).length ≤ 5120000) {x : List Nat × Nat × Nat} (hx : x ∈ signsL) (h7 : x.2.2 < 7) (h4 : x.2.2 ≠ 4) (w : World) (hw : Below w0.heap.size w0 w) (y0 : Nat) (r0 : Nat × Nat) (hy0 : metN l f y0 = some r0) (y1 : Nat) (r1 : Nat × Nat) (hy1 : metN l f y1 = some r1) (kv : Value) (hkv : SlR w0 w0.heap.size 1 IsI kv [(y0 : Int), (y1 : Int)]) :
    Calls Tryd.prog 62 #[.agg #[v], .agg #[.int .i64 ((x.2.1 : Nat) : Int), .string (txt []), .int .i64 0, kv]] w fun e w' => e = .returned (.string (txt (tellN l f y0 (x.2.2) ++ (([32] ++ x.1) ++ [32]) ++ tellN l f y1 (x.2.2 + 1)))) ∧ Below w.heap.size w w' := by
  obtain ⟨e1, e2, e7, hq, hl, _, _, _, hl1, hl3⟩ := binF x hx h7
  have hsl := sig_signs x hx
  have hml : x.1.length ≤ 8 := by
    have : ∀ x ∈ signsL, x.1.length ≤ 8 := by decide
    exact this x hx
  have l7 : decide ((x.2.2 : Int) < 7) = true := by simp only [decide_eq_true_eq]; omega
  have l8 : decide (x.2.2 < 7) = true := by simpa using h7
  have l4 : ((x.2.2 : Int) == 4) = false := by simp; omega
  have l3 : ((x.2.2 : Int) == 3) = false := by simp; omega
  have l9 : ((x.2.2 : Int) == 7) = false := by simp; omega
  have l63 : (x.2.2 : Int) ≤ 7 := by omega
  have l0 : (0 : Int) ≤ (x.2.2 : Int) := Int.natCast_nonneg _
  obtain ⟨bk, ok, kc, rfl, hck⟩ := kid_cells hkv (by simp)
  have hk0 : w0.cell? ⟨bk, ok, none⟩ = some (.int .i64 (y0 : Int)) := hck 0 _ rfl
  have hk1 : w0.cell? ⟨bk, ok + 1, none⟩ = some (.int .i64 (y1 : Int)) := hck 1 _ rfl
  have hKL : ([(y0 : Int), (y1 : Int)] : List Int).length = 2 := rfl
  rw [hKL]
  have hT0 := hlen y0 r0 (x.2.2) hy0
  have TC0 : ∀ W, Below w0.heap.size w0 W → Calls Tryd.prog 33 #[.agg #[v], .int .i64 (y0 : Int), .int .i64 ((x.2.2 : Int))] W fun e w' => e = .returned (.string (txt (tellN l f y0 (x.2.2)))) ∧ Below W.heap.size W w' := fun W hW => by
    have := HT W y0 (x.2.2) hW ⟨r0, hy0⟩ (by omega)
    skip
    exact this
  have hT1 := hlen y1 r1 (x.2.2 + 1) hy1
  have TC1 : ∀ W, Below w0.heap.size w0 W → Calls Tryd.prog 33 #[.agg #[v], .int .i64 (y1 : Int), .int .i64 (IntKind.i64.wrap ((x.2.2 : Int) + 1))] W fun e w' => e = .returned (.string (txt (tellN l f y1 (x.2.2 + 1)))) ∧ Below W.heap.size W w' := fun W hW => by
    have := HT W y1 (x.2.2 + 1) hW ⟨r1, hy1⟩ (by omega)
    rw [Int.natCast_add] at this; rw [show IntKind.i64.wrap ((x.2.2 : Int) + 1) = (x.2.2 : Int) + ((1 : Nat) : Int) from wrap_small (by omega) (by omega)]
    exact this
  have TG : Hid (∀ W, Calls Tryd.prog 63 #[.int .i64 ((x.2.1 : Nat) : Int)] W fun e w' => e = .returned (.int .i64 (x.2.2 : Int)) ∧ w' = W) := Lib.hid (fun W => by have := r_tight ((x.2.1 : Nat) : Int) W; rw [hl] at this; exact this)
  have SG : Hid (∀ W, Calls Tryd.prog 89 #[.int .i64 ((x.2.1 : Nat) : Int)] W fun e w' => e = .returned (.string (txt x.1)) ∧ Below W.heap.size W w') := Lib.hid (fun W => r_sign hsl W)
  obtain ⟨T0, hTe0⟩ : ∃ T, tellN l f y0 (x.2.2) = T := ⟨_, rfl⟩
  rw [hTe0] at TC0 hT0 ⊢
  have zT0 : (txt T0).size ≤ 5120000 := by rw [txt_size]; exact hT0
  obtain ⟨T1, hTe1⟩ : ∃ T, tellN l f y1 (x.2.2 + 1) = T := ⟨_, rfl⟩
  rw [hTe1] at TC1 hT1 ⊢
  have zT1 : (txt T1).size ≤ 5120000 := by rw [txt_size]; exact hT1
  have zm : (txt x.1).size ≤ 8 := by rw [txt_size]; exact hml
  obtain ⟨mk, hmk⟩ : ∃ z, x.1 = z := ⟨_, rfl⟩
  rw [hmk] at SG zm ⊢
  obtain ⟨kz, hkz⟩ : ∃ z, ((x.2.1 : Nat) : Int) = z := ⟨_, rfl⟩
  rw [hkz] at TG SG e1 e2 e7 hq ⊢
  have q1 : (kz == 1) = false := by simpa using e1
  have q2 : (kz == 2) = false := by simpa using e2
  have q7 : (kz == 7) = false := by simpa using e7
  obtain ⟨lv, hlv⟩ : ∃ z, x.2.2 = z := ⟨_, rfl⟩
  rw [hlv] at TC0 TC1 TG l7 l8 l4 l3 l9 l63 l0
  clear hx h7 h4 hsl hl hml e1 e2 e7 hq hkz hmk hl1 hl3 hlv
  have z0 : ¬ 9223372036854775807 < (txt T0).size + 1 := by omega
  have z1 : ¬ 9223372036854775807 < (txt T0).size + 1 + (txt mk).size := by omega
  have z2 : ¬ 9223372036854775807 < (txt T0).size + 1 + (txt mk).size + 1 := by omega
  have z3 : ¬ 9223372036854775807 < (txt T0).size + 1 + (txt mk).size + 1 + (txt T1).size := by omega
  have HV : Hid (txt T0 ++ (⟨#[32]⟩ : ByteArray) ++ txt mk ++ (⟨#[32]⟩ : ByteArray) ++ txt T1 = txt (T0 ++ (([32] ++ mk) ++ [32]) ++ T1)) := Lib.hid (by first | (simp only [lit_txt, lit_if, lit_then, lit_else, lit_end, lit_in, lit_colon, lit_open, lit_close, lit_not, txt_app, List.append_assoc]; done) | (rw [← txt_app]; rfl))
  have BW : Hid (Below w.heap.size w ((w.alloc (.cells #[v] 24)).alloc (.cells #[.int .i64 kz, .string (txt []), .int .i64 0, .slice (some ⟨bk, ok, none⟩) 2 kc] 46))) := Lib.hid (((Below.refl _ _).alloc (Nat.le_refl _) _).alloc (by rw [World.size_alloc]; omega) _)
  have HE : Hid (Blk ((w.alloc (.cells #[v] 24)).alloc (.cells #[.int .i64 kz, .string (txt []), .int .i64 0, .slice (some ⟨bk, ok, none⟩) 2 kc] 46)) w.heap.size 24 #[v]) := Lib.hid ((Blk.new _ _ _).alloc _)
  have HNB : Hid (Blk ((w.alloc (.cells #[v] 24)).alloc (.cells #[.int .i64 kz, .string (txt []), .int .i64 0, .slice (some ⟨bk, ok, none⟩) 2 kc] 46)) (w.heap.size + 1) 46 #[.int .i64 kz, .string (txt []), .int .i64 0, .slice (some ⟨bk, ok, none⟩) 2 kc]) := Lib.hid (Blk.new_ (by rw [World.size_alloc]) _ _)
  have HW0 := Lib.hid (hw.trans (BW.out.mono hw.size))
  have HK0 := Lib.hid hk0
  have HTC0 := Lib.hid TC0
  have HK1 := Lib.hid hk1
  have HTC1 := Lib.hid TC1
  clear hw hkv hck hKL HT hlen hy0 hk0 hT0 TC0 hTe0 zT0 hy1 hk1 hT1 TC1 hTe1 zT1 zm
  go_enter Tryd.func62, Tryd.ntmps62
  go_wp2_with (first
    | (go_at_call 63; refine (TG.out _).mono ?_; rintro e w9 ⟨rfl, rfl⟩))
  generalize hw2 : World.alloc (World.alloc w _) _ = w2
  rw [hw2] at BW HE HNB HW0
  have BB0 : Hid (Below w2.heap.size w2 w2) := Lib.hid (Below.refl _ _)
  have k0 : w2.cell? ⟨w.heap.size, 0, none⟩ = some v := HE.out.cell (i := 0) rfl
  have k1 : w2.cell? ⟨w.heap.size + 1, 0, none⟩ = some (.int .i64 kz) := HNB.out.cell (i := 0) rfl
  have k2 : w2.cell? ⟨w.heap.size + 1, 1, none⟩ = some (.string (txt [])) := HNB.out.cell (i := 1) rfl
  have k3 : w2.cell? ⟨w.heap.size + 1, 3, none⟩ = some (.slice (some ⟨bk, ok, none⟩) 2 kc) := HNB.out.cell (i := 3) rfl
  have k4 : w2.cell? ⟨bk, ok, none⟩ = some (.int .i64 (y0 : Int)) := by rw [HW0.out.cell (p := ⟨bk, ok, none⟩) (cell_lt HK0.out)]; exact HK0.out
  have k5 : w2.cell? ⟨bk, ok + 1, none⟩ = some (.int .i64 (y1 : Int)) := by rw [HW0.out.cell (p := ⟨bk, ok + 1, none⟩) (cell_lt HK1.out)]; exact HK1.out
  clear hw2
  have keepS : ∀ {W : World}, Below w2.heap.size w2 W → (W.cell? ⟨w.heap.size, 0, none⟩ = some (v) ∧ W.cell? ⟨w.heap.size + 1, 0, none⟩ = some (.int .i64 kz) ∧ W.cell? ⟨w.heap.size + 1, 1, none⟩ = some (.string (txt [])) ∧ W.cell? ⟨w.heap.size + 1, 3, none⟩ = some (.slice (some ⟨bk, ok, none⟩) 2 kc) ∧ W.cell? ⟨bk, ok, none⟩ = some (.int .i64 (y0 : Int)) ∧ W.cell? ⟨bk, ok + 1, none⟩ = some (.int .i64 (y1 : Int))) := fun h => ⟨cell_keep h k0, cell_keep h k1, cell_keep h k2, cell_keep h k3, cell_keep h k4, cell_keep h k5⟩
  have tokA : True := trivial
  have tokB : True := trivial
  have tokS : True := trivial
  go_region_held3 (fun W => W.cell? ⟨w.heap.size, 0, none⟩ = some (v) ∧ W.cell? ⟨w.heap.size + 1, 0, none⟩ = some (.int .i64 kz) ∧ W.cell? ⟨w.heap.size + 1, 1, none⟩ = some (.string (txt [])) ∧ W.cell? ⟨w.heap.size + 1, 3, none⟩ = some (.slice (some ⟨bk, ok, none⟩) 2 kc) ∧ W.cell? ⟨bk, ok, none⟩ = some (.int .i64 (y0 : Int)) ∧ W.cell? ⟨bk, ok + 1, none⟩ = some (.int .i64 (y1 : Int)))
    (first
      | go_keep
      | (have _k := KA; exact KA)
      | (have _k := KB; exact KB)
      | (have _k := KS; exact KS)
      | fail)
    (first
      | (go_at_call 33
         have _t := tokA
         with_reducible refine (HTC0.out _ (by first | exact HW0.out.trans (BBA.out.mono HW0.out.size) | exact HW0.out.trans (BBB.out.mono HW0.out.size) | exact HW0.out.trans (BBS.out.mono HW0.out.size) | exact (HW0.out.trans (BBA.out.mono HW0.out.size)).drew | exact (HW0.out.trans (BBB.out.mono HW0.out.size)).drew | exact (HW0.out.trans (BBS.out.mono HW0.out.size)).drew | exact HW0.out | exact HW0.out.drew | exact below_drewN HW0.out _)).mono ?_
         rintro e wA ⟨rfl, bA⟩
         have BBA : Hid (Below w2.heap.size w2 wA) := Lib.hid (by first | exact BBA.out.trans (bA.mono BBA.out.size) | exact BBB.out.trans (bA.mono BBB.out.size) | exact BBS.out.trans (bA.mono BBS.out.size) | exact BBA.out.drew.trans (bA.mono BBA.out.size) | exact BBB.out.drew.trans (bA.mono BBB.out.size) | exact BBS.out.drew.trans (bA.mono BBS.out.size) | exact ⟨bA.os, bA.tape, bA.output, bA.size, bA.block⟩)
         have KA : (wA.cell? ⟨w.heap.size, 0, none⟩ = some (v) ∧ wA.cell? ⟨w.heap.size + 1, 0, none⟩ = some (.int .i64 kz) ∧ wA.cell? ⟨w.heap.size + 1, 1, none⟩ = some (.string (txt [])) ∧ wA.cell? ⟨w.heap.size + 1, 3, none⟩ = some (.slice (some ⟨bk, ok, none⟩) 2 kc) ∧ wA.cell? ⟨bk, ok, none⟩ = some (.int .i64 (y0 : Int)) ∧ wA.cell? ⟨bk, ok + 1, none⟩ = some (.int .i64 (y1 : Int))) := keepS BBA.out
         clear bA tokA _t)
      | (go_at_call 33
         have _t := tokB
         with_reducible refine (HTC1.out _ (by first | exact HW0.out.trans (BBA.out.mono HW0.out.size) | exact HW0.out.trans (BBB.out.mono HW0.out.size) | exact HW0.out.trans (BBS.out.mono HW0.out.size) | exact (HW0.out.trans (BBA.out.mono HW0.out.size)).drew | exact (HW0.out.trans (BBB.out.mono HW0.out.size)).drew | exact (HW0.out.trans (BBS.out.mono HW0.out.size)).drew | exact HW0.out | exact HW0.out.drew | exact below_drewN HW0.out _)).mono ?_
         rintro e wB ⟨rfl, bB⟩
         have BBB : Hid (Below w2.heap.size w2 wB) := Lib.hid (by first | exact BBA.out.trans (bB.mono BBA.out.size) | exact BBB.out.trans (bB.mono BBB.out.size) | exact BBS.out.trans (bB.mono BBS.out.size) | exact BBA.out.drew.trans (bB.mono BBA.out.size) | exact BBB.out.drew.trans (bB.mono BBB.out.size) | exact BBS.out.drew.trans (bB.mono BBS.out.size) | exact ⟨bB.os, bB.tape, bB.output, bB.size, bB.block⟩)
         have KB : (wB.cell? ⟨w.heap.size, 0, none⟩ = some (v) ∧ wB.cell? ⟨w.heap.size + 1, 0, none⟩ = some (.int .i64 kz) ∧ wB.cell? ⟨w.heap.size + 1, 1, none⟩ = some (.string (txt [])) ∧ wB.cell? ⟨w.heap.size + 1, 3, none⟩ = some (.slice (some ⟨bk, ok, none⟩) 2 kc) ∧ wB.cell? ⟨bk, ok, none⟩ = some (.int .i64 (y0 : Int)) ∧ wB.cell? ⟨bk, ok + 1, none⟩ = some (.int .i64 (y1 : Int))) := keepS BBB.out
         clear bB tokB _t)
      | (go_at_call 89
         have _t := tokS
         with_reducible refine (SG.out _).mono ?_
         rintro e wS ⟨rfl, bS⟩
         have BBS : Hid (Below w2.heap.size w2 wS) := Lib.hid (by first | exact BBA.out.trans (bS.mono BBA.out.size) | exact BBB.out.trans (bS.mono BBB.out.size) | exact BBS.out.trans (bS.mono BBS.out.size) | exact BBA.out.drew.trans (bS.mono BBA.out.size) | exact BBB.out.drew.trans (bS.mono BBB.out.size) | exact BBS.out.drew.trans (bS.mono BBS.out.size) | exact ⟨bS.os, bS.tape, bS.output, bS.size, bS.block⟩)
         have KS : (wS.cell? ⟨w.heap.size, 0, none⟩ = some (v) ∧ wS.cell? ⟨w.heap.size + 1, 0, none⟩ = some (.int .i64 kz) ∧ wS.cell? ⟨w.heap.size + 1, 1, none⟩ = some (.string (txt [])) ∧ wS.cell? ⟨w.heap.size + 1, 3, none⟩ = some (.slice (some ⟨bk, ok, none⟩) 2 kc) ∧ wS.cell? ⟨bk, ok, none⟩ = some (.int .i64 (y0 : Int)) ∧ wS.cell? ⟨bk, ok + 1, none⟩ = some (.int .i64 (y1 : Int))) := keepS BBS.out
         clear bS tokS _t)
      | fail)
  all_goals
    go_wp2_with fail
    go_ret
    exact ⟨by rw [HV.out]; rfl, by first | exact BW.out.trans (BBA.out.mono BW.out.size) | exact BW.out.trans (BBB.out.mono BW.out.size) | exact BW.out.trans (BBS.out.mono BW.out.size) | exact (BW.out.trans (BBA.out.mono BW.out.size)).drew | exact (BW.out.trans (BBB.out.mono BW.out.size)).drew | exact (BW.out.trans (BBS.out.mono BW.out.size)).drew⟩
set_option maxRecDepth 100000 in
set_option maxHeartbeats 8000000 in
theorem bare_if {w0 : World} {l : List ND} {v : Value} {f : Nat} (HT : ToldC w0 l v f) (hlen : ∀ y r t, metN l f y = some r → (tellN l f y t).length ≤ 5120000)  (w : World) (hw : Below w0.heap.size w0 w) (y0 : Nat) (r0 : Nat × Nat) (hy0 : metN l f y0 = some r0) (y1 : Nat) (r1 : Nat × Nat) (hy1 : metN l f y1 = some r1) (y2 : Nat) (r2 : Nat × Nat) (hy2 : metN l f y2 = some r2) (kv : Value) (hkv : SlR w0 w0.heap.size 1 IsI kv [(y0 : Int), (y1 : Int), (y2 : Int)]) :
    Calls Tryd.prog 62 #[.agg #[v], .agg #[.int .i64 (30 : Int), .string (txt []), .int .i64 0, kv]] w fun e w' => e = .returned (.string (txt ([105, 102, 32] ++ tellN l f y0 (0) ++ [32, 116, 104, 101, 110, 32] ++ tellN l f y1 (0) ++ [32, 101, 108, 115, 101, 32] ++ tellN l f y2 (0) ++ [32, 101, 110, 100]))) ∧ Below w.heap.size w w' := by
  skip
  obtain ⟨bk, ok, kc, rfl, hck⟩ := kid_cells hkv (by simp)
  have hk0 : w0.cell? ⟨bk, ok, none⟩ = some (.int .i64 (y0 : Int)) := hck 0 _ rfl
  have hk1 : w0.cell? ⟨bk, ok + 1, none⟩ = some (.int .i64 (y1 : Int)) := hck 1 _ rfl
  have hk2 : w0.cell? ⟨bk, ok + 2, none⟩ = some (.int .i64 (y2 : Int)) := hck 2 _ rfl
  have hKL : ([(y0 : Int), (y1 : Int), (y2 : Int)] : List Int).length = 3 := rfl
  rw [hKL]
  have hT0 := hlen y0 r0 (0) hy0
  have TC0 : ∀ W, Below w0.heap.size w0 W → Calls Tryd.prog 33 #[.agg #[v], .int .i64 (y0 : Int), .int .i64 (0)] W fun e w' => e = .returned (.string (txt (tellN l f y0 (0)))) ∧ Below W.heap.size W w' := fun W hW => by
    have := HT W y0 (0) hW ⟨r0, hy0⟩ (by omega)
    skip
    exact this
  have hT1 := hlen y1 r1 (0) hy1
  have TC1 : ∀ W, Below w0.heap.size w0 W → Calls Tryd.prog 33 #[.agg #[v], .int .i64 (y1 : Int), .int .i64 (0)] W fun e w' => e = .returned (.string (txt (tellN l f y1 (0)))) ∧ Below W.heap.size W w' := fun W hW => by
    have := HT W y1 (0) hW ⟨r1, hy1⟩ (by omega)
    skip
    exact this
  have hT2 := hlen y2 r2 (0) hy2
  have TC2 : ∀ W, Below w0.heap.size w0 W → Calls Tryd.prog 33 #[.agg #[v], .int .i64 (y2 : Int), .int .i64 (0)] W fun e w' => e = .returned (.string (txt (tellN l f y2 (0)))) ∧ Below W.heap.size W w' := fun W hW => by
    have := HT W y2 (0) hW ⟨r2, hy2⟩ (by omega)
    skip
    exact this
  have TG : Hid (∀ W, Calls Tryd.prog 63 #[.int .i64 (30 : Int)] W fun e w' => e = .returned (.int .i64 8) ∧ w' = W) := Lib.hid (fun W => by have := r_tight (30 : Int) W; exact this)
  obtain ⟨T0, hTe0⟩ : ∃ T, tellN l f y0 (0) = T := ⟨_, rfl⟩
  rw [hTe0] at TC0 hT0 ⊢
  have zT0 : (txt T0).size ≤ 5120000 := by rw [txt_size]; exact hT0
  obtain ⟨T1, hTe1⟩ : ∃ T, tellN l f y1 (0) = T := ⟨_, rfl⟩
  rw [hTe1] at TC1 hT1 ⊢
  have zT1 : (txt T1).size ≤ 5120000 := by rw [txt_size]; exact hT1
  obtain ⟨T2, hTe2⟩ : ∃ T, tellN l f y2 (0) = T := ⟨_, rfl⟩
  rw [hTe2] at TC2 hT2 ⊢
  have zT2 : (txt T2).size ≤ 5120000 := by rw [txt_size]; exact hT2
  skip
  have z0 : ¬ 9223372036854775807 < 3 + (txt T0).size := by omega
  have z1 : ¬ 9223372036854775807 < 3 + (txt T0).size + 6 := by omega
  have z2 : ¬ 9223372036854775807 < 3 + (txt T0).size + 6 + (txt T1).size := by omega
  have z3 : ¬ 9223372036854775807 < 3 + (txt T0).size + 6 + (txt T1).size + 6 := by omega
  have z4 : ¬ 9223372036854775807 < 3 + (txt T0).size + 6 + (txt T1).size + 6 + (txt T2).size := by omega
  have z5 : ¬ 9223372036854775807 < 3 + (txt T0).size + 6 + (txt T1).size + 6 + (txt T2).size + 4 := by omega
  have HV : Hid ((⟨#[105, 102, 32]⟩ : ByteArray) ++ txt T0 ++ (⟨#[32, 116, 104, 101, 110, 32]⟩ : ByteArray) ++ txt T1 ++ (⟨#[32, 101, 108, 115, 101, 32]⟩ : ByteArray) ++ txt T2 ++ (⟨#[32, 101, 110, 100]⟩ : ByteArray) = txt ([105, 102, 32] ++ T0 ++ [32, 116, 104, 101, 110, 32] ++ T1 ++ [32, 101, 108, 115, 101, 32] ++ T2 ++ [32, 101, 110, 100])) := Lib.hid (by first | (simp only [lit_txt, lit_if, lit_then, lit_else, lit_end, lit_in, lit_colon, lit_open, lit_close, lit_not, txt_app, List.append_assoc]; done) | (rw [← txt_app]; rfl))
  have BW : Hid (Below w.heap.size w ((w.alloc (.cells #[v] 24)).alloc (.cells #[.int .i64 (30 : Int), .string (txt []), .int .i64 0, .slice (some ⟨bk, ok, none⟩) 3 kc] 46))) := Lib.hid (((Below.refl _ _).alloc (Nat.le_refl _) _).alloc (by rw [World.size_alloc]; omega) _)
  have HE : Hid (Blk ((w.alloc (.cells #[v] 24)).alloc (.cells #[.int .i64 (30 : Int), .string (txt []), .int .i64 0, .slice (some ⟨bk, ok, none⟩) 3 kc] 46)) w.heap.size 24 #[v]) := Lib.hid ((Blk.new _ _ _).alloc _)
  have HNB : Hid (Blk ((w.alloc (.cells #[v] 24)).alloc (.cells #[.int .i64 (30 : Int), .string (txt []), .int .i64 0, .slice (some ⟨bk, ok, none⟩) 3 kc] 46)) (w.heap.size + 1) 46 #[.int .i64 (30 : Int), .string (txt []), .int .i64 0, .slice (some ⟨bk, ok, none⟩) 3 kc]) := Lib.hid (Blk.new_ (by rw [World.size_alloc]) _ _)
  have HW0 := Lib.hid (hw.trans (BW.out.mono hw.size))
  have HK0 := Lib.hid hk0
  have HTC0 := Lib.hid TC0
  have HK1 := Lib.hid hk1
  have HTC1 := Lib.hid TC1
  have HK2 := Lib.hid hk2
  have HTC2 := Lib.hid TC2
  clear hw hkv hck hKL HT hlen hy0 hk0 hT0 TC0 hTe0 zT0 hy1 hk1 hT1 TC1 hTe1 zT1 hy2 hk2 hT2 TC2 hTe2 zT2
  go_enter Tryd.func62, Tryd.ntmps62
  go_wp2_with (first
    | (go_at_call 63; refine (TG.out _).mono ?_; rintro e w9 ⟨rfl, rfl⟩))
  generalize hw2 : World.alloc (World.alloc w _) _ = w2
  rw [hw2] at BW HE HNB HW0
  have BB0 : Hid (Below w2.heap.size w2 w2) := Lib.hid (Below.refl _ _)
  have k0 : w2.cell? ⟨w.heap.size, 0, none⟩ = some v := HE.out.cell (i := 0) rfl
  have k1 : w2.cell? ⟨w.heap.size + 1, 0, none⟩ = some (.int .i64 (30 : Int)) := HNB.out.cell (i := 0) rfl
  have k2 : w2.cell? ⟨w.heap.size + 1, 1, none⟩ = some (.string (txt [])) := HNB.out.cell (i := 1) rfl
  have k3 : w2.cell? ⟨w.heap.size + 1, 3, none⟩ = some (.slice (some ⟨bk, ok, none⟩) 3 kc) := HNB.out.cell (i := 3) rfl
  have k4 : w2.cell? ⟨bk, ok, none⟩ = some (.int .i64 (y0 : Int)) := by rw [HW0.out.cell (p := ⟨bk, ok, none⟩) (cell_lt HK0.out)]; exact HK0.out
  have k5 : w2.cell? ⟨bk, ok + 1, none⟩ = some (.int .i64 (y1 : Int)) := by rw [HW0.out.cell (p := ⟨bk, ok + 1, none⟩) (cell_lt HK1.out)]; exact HK1.out
  have k6 : w2.cell? ⟨bk, ok + 2, none⟩ = some (.int .i64 (y2 : Int)) := by rw [HW0.out.cell (p := ⟨bk, ok + 2, none⟩) (cell_lt HK2.out)]; exact HK2.out
  clear hw2
  have keepS : ∀ {W : World}, Below w2.heap.size w2 W → (W.cell? ⟨w.heap.size, 0, none⟩ = some (v) ∧ W.cell? ⟨w.heap.size + 1, 0, none⟩ = some (.int .i64 (30 : Int)) ∧ W.cell? ⟨w.heap.size + 1, 1, none⟩ = some (.string (txt [])) ∧ W.cell? ⟨w.heap.size + 1, 3, none⟩ = some (.slice (some ⟨bk, ok, none⟩) 3 kc) ∧ W.cell? ⟨bk, ok, none⟩ = some (.int .i64 (y0 : Int)) ∧ W.cell? ⟨bk, ok + 1, none⟩ = some (.int .i64 (y1 : Int)) ∧ W.cell? ⟨bk, ok + 2, none⟩ = some (.int .i64 (y2 : Int))) := fun h => ⟨cell_keep h k0, cell_keep h k1, cell_keep h k2, cell_keep h k3, cell_keep h k4, cell_keep h k5, cell_keep h k6⟩
  have tokA : True := trivial
  have tokB : True := trivial
  have tokC : True := trivial
  go_region_held3 (fun W => W.cell? ⟨w.heap.size, 0, none⟩ = some (v) ∧ W.cell? ⟨w.heap.size + 1, 0, none⟩ = some (.int .i64 (30 : Int)) ∧ W.cell? ⟨w.heap.size + 1, 1, none⟩ = some (.string (txt [])) ∧ W.cell? ⟨w.heap.size + 1, 3, none⟩ = some (.slice (some ⟨bk, ok, none⟩) 3 kc) ∧ W.cell? ⟨bk, ok, none⟩ = some (.int .i64 (y0 : Int)) ∧ W.cell? ⟨bk, ok + 1, none⟩ = some (.int .i64 (y1 : Int)) ∧ W.cell? ⟨bk, ok + 2, none⟩ = some (.int .i64 (y2 : Int)))
    (first
      | go_keep
      | (have _k := KA; exact KA)
      | (have _k := KB; exact KB)
      | (have _k := KC; exact KC)
      | fail)
    (first
      | (go_at_call 33
         have _t := tokA
         with_reducible refine (HTC0.out _ (by first | exact HW0.out.trans (BBA.out.mono HW0.out.size) | exact HW0.out.trans (BBB.out.mono HW0.out.size) | exact HW0.out.trans (BBC.out.mono HW0.out.size) | exact (HW0.out.trans (BBA.out.mono HW0.out.size)).drew | exact (HW0.out.trans (BBB.out.mono HW0.out.size)).drew | exact (HW0.out.trans (BBC.out.mono HW0.out.size)).drew | exact HW0.out | exact HW0.out.drew | exact below_drewN HW0.out _)).mono ?_
         rintro e wA ⟨rfl, bA⟩
         have BBA : Hid (Below w2.heap.size w2 wA) := Lib.hid (by first | exact BBA.out.trans (bA.mono BBA.out.size) | exact BBB.out.trans (bA.mono BBB.out.size) | exact BBC.out.trans (bA.mono BBC.out.size) | exact BBA.out.drew.trans (bA.mono BBA.out.size) | exact BBB.out.drew.trans (bA.mono BBB.out.size) | exact BBC.out.drew.trans (bA.mono BBC.out.size) | exact ⟨bA.os, bA.tape, bA.output, bA.size, bA.block⟩)
         have KA : (wA.cell? ⟨w.heap.size, 0, none⟩ = some (v) ∧ wA.cell? ⟨w.heap.size + 1, 0, none⟩ = some (.int .i64 (30 : Int)) ∧ wA.cell? ⟨w.heap.size + 1, 1, none⟩ = some (.string (txt [])) ∧ wA.cell? ⟨w.heap.size + 1, 3, none⟩ = some (.slice (some ⟨bk, ok, none⟩) 3 kc) ∧ wA.cell? ⟨bk, ok, none⟩ = some (.int .i64 (y0 : Int)) ∧ wA.cell? ⟨bk, ok + 1, none⟩ = some (.int .i64 (y1 : Int)) ∧ wA.cell? ⟨bk, ok + 2, none⟩ = some (.int .i64 (y2 : Int))) := keepS BBA.out
         clear bA tokA _t)
      | (go_at_call 33
         have _t := tokB
         with_reducible refine (HTC1.out _ (by first | exact HW0.out.trans (BBA.out.mono HW0.out.size) | exact HW0.out.trans (BBB.out.mono HW0.out.size) | exact HW0.out.trans (BBC.out.mono HW0.out.size) | exact (HW0.out.trans (BBA.out.mono HW0.out.size)).drew | exact (HW0.out.trans (BBB.out.mono HW0.out.size)).drew | exact (HW0.out.trans (BBC.out.mono HW0.out.size)).drew | exact HW0.out | exact HW0.out.drew | exact below_drewN HW0.out _)).mono ?_
         rintro e wB ⟨rfl, bB⟩
         have BBB : Hid (Below w2.heap.size w2 wB) := Lib.hid (by first | exact BBA.out.trans (bB.mono BBA.out.size) | exact BBB.out.trans (bB.mono BBB.out.size) | exact BBC.out.trans (bB.mono BBC.out.size) | exact BBA.out.drew.trans (bB.mono BBA.out.size) | exact BBB.out.drew.trans (bB.mono BBB.out.size) | exact BBC.out.drew.trans (bB.mono BBC.out.size) | exact ⟨bB.os, bB.tape, bB.output, bB.size, bB.block⟩)
         have KB : (wB.cell? ⟨w.heap.size, 0, none⟩ = some (v) ∧ wB.cell? ⟨w.heap.size + 1, 0, none⟩ = some (.int .i64 (30 : Int)) ∧ wB.cell? ⟨w.heap.size + 1, 1, none⟩ = some (.string (txt [])) ∧ wB.cell? ⟨w.heap.size + 1, 3, none⟩ = some (.slice (some ⟨bk, ok, none⟩) 3 kc) ∧ wB.cell? ⟨bk, ok, none⟩ = some (.int .i64 (y0 : Int)) ∧ wB.cell? ⟨bk, ok + 1, none⟩ = some (.int .i64 (y1 : Int)) ∧ wB.cell? ⟨bk, ok + 2, none⟩ = some (.int .i64 (y2 : Int))) := keepS BBB.out
         clear bB tokB _t)
      | (go_at_call 33
         have _t := tokC
         with_reducible refine (HTC2.out _ (by first | exact HW0.out.trans (BBA.out.mono HW0.out.size) | exact HW0.out.trans (BBB.out.mono HW0.out.size) | exact HW0.out.trans (BBC.out.mono HW0.out.size) | exact (HW0.out.trans (BBA.out.mono HW0.out.size)).drew | exact (HW0.out.trans (BBB.out.mono HW0.out.size)).drew | exact (HW0.out.trans (BBC.out.mono HW0.out.size)).drew | exact HW0.out | exact HW0.out.drew | exact below_drewN HW0.out _)).mono ?_
         rintro e wC ⟨rfl, bC⟩
         have BBC : Hid (Below w2.heap.size w2 wC) := Lib.hid (by first | exact BBA.out.trans (bC.mono BBA.out.size) | exact BBB.out.trans (bC.mono BBB.out.size) | exact BBC.out.trans (bC.mono BBC.out.size) | exact BBA.out.drew.trans (bC.mono BBA.out.size) | exact BBB.out.drew.trans (bC.mono BBB.out.size) | exact BBC.out.drew.trans (bC.mono BBC.out.size) | exact ⟨bC.os, bC.tape, bC.output, bC.size, bC.block⟩)
         have KC : (wC.cell? ⟨w.heap.size, 0, none⟩ = some (v) ∧ wC.cell? ⟨w.heap.size + 1, 0, none⟩ = some (.int .i64 (30 : Int)) ∧ wC.cell? ⟨w.heap.size + 1, 1, none⟩ = some (.string (txt [])) ∧ wC.cell? ⟨w.heap.size + 1, 3, none⟩ = some (.slice (some ⟨bk, ok, none⟩) 3 kc) ∧ wC.cell? ⟨bk, ok, none⟩ = some (.int .i64 (y0 : Int)) ∧ wC.cell? ⟨bk, ok + 1, none⟩ = some (.int .i64 (y1 : Int)) ∧ wC.cell? ⟨bk, ok + 2, none⟩ = some (.int .i64 (y2 : Int))) := keepS BBC.out
         clear bC tokC _t)
      | fail)
  all_goals
    go_wp2_with fail
    go_ret
    exact ⟨by rw [HV.out]; rfl, by first | exact BW.out.trans (BBA.out.mono BW.out.size) | exact BW.out.trans (BBB.out.mono BW.out.size) | exact BW.out.trans (BBC.out.mono BW.out.size) | exact (BW.out.trans (BBA.out.mono BW.out.size)).drew | exact (BW.out.trans (BBB.out.mono BW.out.size)).drew | exact (BW.out.trans (BBC.out.mono BW.out.size)).drew⟩
set_option maxRecDepth 100000 in
set_option maxHeartbeats 8000000 in
theorem bare_loop {w0 : World} {l : List ND} {v : Value} {f : Nat} (HT : ToldC w0 l v f) (hlen : ∀ y r t, metN l f y = some r → (tellN l f y t).length ≤ 5120000) {x : List Nat × Nat × Nat} (hx : x ∈ onesL) (h2 : x.2.2 = 2) (s : List Nat) (hs : s.length ≤ 4096) (w : World) (hw : Below w0.heap.size w0 w) (y0 : Nat) (r0 : Nat × Nat) (hy0 : metN l f y0 = some r0) (y1 : Nat) (r1 : Nat × Nat) (hy1 : metN l f y1 = some r1) (kv : Value) (hkv : SlR w0 w0.heap.size 1 IsI kv [(y0 : Int), (y1 : Int)]) :
    Calls Tryd.prog 62 #[.agg #[v], .agg #[.int .i64 ((x.2.1 : Nat) : Int), .string (txt s), .int .i64 0, kv]] w fun e w' => e = .returned (.string (txt ((((x.1 ++ [32]) ++ s) ++ [32, 105, 110, 32]) ++ tellN l f y0 (0) ++ [58, 32] ++ tellN l f y1 (0) ++ [32, 101, 110, 100]))) ∧ Below w.heap.size w w' := by
  obtain ⟨e1, e2, e7, hq, hl, _, _, h30, h31, h32, _, _⟩ := onesF x hx
  have hsl := sig_ones x hx
  have hml : x.1.length ≤ 8 := by
    have : ∀ x ∈ onesL, x.1.length ≤ 8 := by decide
    exact this x hx
  have g30 := h30 (by omega)
  have g31 := h31 h2
  have zs : (txt s).size ≤ 4096 := by rw [txt_size]; exact hs
  clear h30 h31 h32
  obtain ⟨bk, ok, kc, rfl, hck⟩ := kid_cells hkv (by simp)
  have hk0 : w0.cell? ⟨bk, ok, none⟩ = some (.int .i64 (y0 : Int)) := hck 0 _ rfl
  have hk1 : w0.cell? ⟨bk, ok + 1, none⟩ = some (.int .i64 (y1 : Int)) := hck 1 _ rfl
  have hKL : ([(y0 : Int), (y1 : Int)] : List Int).length = 2 := rfl
  rw [hKL]
  have hT0 := hlen y0 r0 (0) hy0
  have TC0 : ∀ W, Below w0.heap.size w0 W → Calls Tryd.prog 33 #[.agg #[v], .int .i64 (y0 : Int), .int .i64 (0)] W fun e w' => e = .returned (.string (txt (tellN l f y0 (0)))) ∧ Below W.heap.size W w' := fun W hW => by
    have := HT W y0 (0) hW ⟨r0, hy0⟩ (by omega)
    skip
    exact this
  have hT1 := hlen y1 r1 (0) hy1
  have TC1 : ∀ W, Below w0.heap.size w0 W → Calls Tryd.prog 33 #[.agg #[v], .int .i64 (y1 : Int), .int .i64 (0)] W fun e w' => e = .returned (.string (txt (tellN l f y1 (0)))) ∧ Below W.heap.size W w' := fun W hW => by
    have := HT W y1 (0) hW ⟨r1, hy1⟩ (by omega)
    skip
    exact this
  have TG : Hid (∀ W, Calls Tryd.prog 63 #[.int .i64 ((x.2.1 : Nat) : Int)] W fun e w' => e = .returned (.int .i64 8) ∧ w' = W) := Lib.hid (fun W => by have := r_tight ((x.2.1 : Nat) : Int) W; rw [hl] at this; exact this)
  have SG : Hid (∀ W, Calls Tryd.prog 89 #[.int .i64 ((x.2.1 : Nat) : Int)] W fun e w' => e = .returned (.string (txt x.1)) ∧ Below W.heap.size W w') := Lib.hid (fun W => r_sign hsl W)
  obtain ⟨T0, hTe0⟩ : ∃ T, tellN l f y0 (0) = T := ⟨_, rfl⟩
  rw [hTe0] at TC0 hT0 ⊢
  have zT0 : (txt T0).size ≤ 5120000 := by rw [txt_size]; exact hT0
  obtain ⟨T1, hTe1⟩ : ∃ T, tellN l f y1 (0) = T := ⟨_, rfl⟩
  rw [hTe1] at TC1 hT1 ⊢
  have zT1 : (txt T1).size ≤ 5120000 := by rw [txt_size]; exact hT1
  have zm : (txt x.1).size ≤ 8 := by rw [txt_size]; exact hml
  obtain ⟨mk, hmk⟩ : ∃ z, x.1 = z := ⟨_, rfl⟩
  rw [hmk] at SG zm ⊢
  obtain ⟨kz, hkz⟩ : ∃ z, ((x.2.1 : Nat) : Int) = z := ⟨_, rfl⟩
  rw [hkz] at TG SG e1 e2 e7 hq ⊢
  have q1 : (kz == 1) = false := by simpa using e1
  have q2 : (kz == 2) = false := by simpa using e2
  have q7 : (kz == 7) = false := by simpa using e7
  rw [hkz] at g30 g31
  have q30 : (kz == 30) = false := by simpa using g30
  have q31 : decide (31 ≤ kz) = true := by simpa using g31
  clear hx h2 hsl hl hml e1 e2 e7 hq hkz hmk hs g30 g31
  have z0 : ¬ 9223372036854775807 < (txt mk).size + 1 := by omega
  have z1 : ¬ 9223372036854775807 < (txt mk).size + 1 + (txt s).size := by omega
  have z2 : ¬ 9223372036854775807 < (txt mk).size + 1 + (txt s).size + 4 := by omega
  have z3 : ¬ 9223372036854775807 < (txt mk).size + 1 + (txt s).size + 4 + (txt T0).size := by omega
  have z4 : ¬ 9223372036854775807 < (txt mk).size + 1 + (txt s).size + 4 + (txt T0).size + 2 := by omega
  have z5 : ¬ 9223372036854775807 < (txt mk).size + 1 + (txt s).size + 4 + (txt T0).size + 2 + (txt T1).size := by omega
  have z6 : ¬ 9223372036854775807 < (txt mk).size + 1 + (txt s).size + 4 + (txt T0).size + 2 + (txt T1).size + 4 := by omega
  have HV : Hid (txt mk ++ (⟨#[32]⟩ : ByteArray) ++ txt s ++ (⟨#[32, 105, 110, 32]⟩ : ByteArray) ++ txt T0 ++ (⟨#[58, 32]⟩ : ByteArray) ++ txt T1 ++ (⟨#[32, 101, 110, 100]⟩ : ByteArray) = txt ((((mk ++ [32]) ++ s) ++ [32, 105, 110, 32]) ++ T0 ++ [58, 32] ++ T1 ++ [32, 101, 110, 100])) := Lib.hid (by first | (simp only [lit_txt, lit_if, lit_then, lit_else, lit_end, lit_in, lit_colon, lit_open, lit_close, lit_not, txt_app, List.append_assoc]; done) | (rw [← txt_app]; rfl))
  have BW : Hid (Below w.heap.size w ((w.alloc (.cells #[v] 24)).alloc (.cells #[.int .i64 kz, .string (txt s), .int .i64 0, .slice (some ⟨bk, ok, none⟩) 2 kc] 46))) := Lib.hid (((Below.refl _ _).alloc (Nat.le_refl _) _).alloc (by rw [World.size_alloc]; omega) _)
  have HE : Hid (Blk ((w.alloc (.cells #[v] 24)).alloc (.cells #[.int .i64 kz, .string (txt s), .int .i64 0, .slice (some ⟨bk, ok, none⟩) 2 kc] 46)) w.heap.size 24 #[v]) := Lib.hid ((Blk.new _ _ _).alloc _)
  have HNB : Hid (Blk ((w.alloc (.cells #[v] 24)).alloc (.cells #[.int .i64 kz, .string (txt s), .int .i64 0, .slice (some ⟨bk, ok, none⟩) 2 kc] 46)) (w.heap.size + 1) 46 #[.int .i64 kz, .string (txt s), .int .i64 0, .slice (some ⟨bk, ok, none⟩) 2 kc]) := Lib.hid (Blk.new_ (by rw [World.size_alloc]) _ _)
  have HW0 := Lib.hid (hw.trans (BW.out.mono hw.size))
  have HK0 := Lib.hid hk0
  have HTC0 := Lib.hid TC0
  have HK1 := Lib.hid hk1
  have HTC1 := Lib.hid TC1
  clear hw hkv hck hKL HT hlen hy0 hk0 hT0 TC0 hTe0 zT0 hy1 hk1 hT1 TC1 hTe1 zT1 zm
  go_enter Tryd.func62, Tryd.ntmps62
  go_wp2_with (first
    | (go_at_call 63; refine (TG.out _).mono ?_; rintro e w9 ⟨rfl, rfl⟩))
  generalize hw2 : World.alloc (World.alloc w _) _ = w2
  rw [hw2] at BW HE HNB HW0
  have BB0 : Hid (Below w2.heap.size w2 w2) := Lib.hid (Below.refl _ _)
  have k0 : w2.cell? ⟨w.heap.size, 0, none⟩ = some v := HE.out.cell (i := 0) rfl
  have k1 : w2.cell? ⟨w.heap.size + 1, 0, none⟩ = some (.int .i64 kz) := HNB.out.cell (i := 0) rfl
  have k2 : w2.cell? ⟨w.heap.size + 1, 1, none⟩ = some (.string (txt s)) := HNB.out.cell (i := 1) rfl
  have k3 : w2.cell? ⟨w.heap.size + 1, 3, none⟩ = some (.slice (some ⟨bk, ok, none⟩) 2 kc) := HNB.out.cell (i := 3) rfl
  have k4 : w2.cell? ⟨bk, ok, none⟩ = some (.int .i64 (y0 : Int)) := by rw [HW0.out.cell (p := ⟨bk, ok, none⟩) (cell_lt HK0.out)]; exact HK0.out
  have k5 : w2.cell? ⟨bk, ok + 1, none⟩ = some (.int .i64 (y1 : Int)) := by rw [HW0.out.cell (p := ⟨bk, ok + 1, none⟩) (cell_lt HK1.out)]; exact HK1.out
  clear hw2
  have keepS : ∀ {W : World}, Below w2.heap.size w2 W → (W.cell? ⟨w.heap.size, 0, none⟩ = some (v) ∧ W.cell? ⟨w.heap.size + 1, 0, none⟩ = some (.int .i64 kz) ∧ W.cell? ⟨w.heap.size + 1, 1, none⟩ = some (.string (txt s)) ∧ W.cell? ⟨w.heap.size + 1, 3, none⟩ = some (.slice (some ⟨bk, ok, none⟩) 2 kc) ∧ W.cell? ⟨bk, ok, none⟩ = some (.int .i64 (y0 : Int)) ∧ W.cell? ⟨bk, ok + 1, none⟩ = some (.int .i64 (y1 : Int))) := fun h => ⟨cell_keep h k0, cell_keep h k1, cell_keep h k2, cell_keep h k3, cell_keep h k4, cell_keep h k5⟩
  have tokA : True := trivial
  have tokB : True := trivial
  have tokS : True := trivial
  go_region_held3 (fun W => W.cell? ⟨w.heap.size, 0, none⟩ = some (v) ∧ W.cell? ⟨w.heap.size + 1, 0, none⟩ = some (.int .i64 kz) ∧ W.cell? ⟨w.heap.size + 1, 1, none⟩ = some (.string (txt s)) ∧ W.cell? ⟨w.heap.size + 1, 3, none⟩ = some (.slice (some ⟨bk, ok, none⟩) 2 kc) ∧ W.cell? ⟨bk, ok, none⟩ = some (.int .i64 (y0 : Int)) ∧ W.cell? ⟨bk, ok + 1, none⟩ = some (.int .i64 (y1 : Int)))
    (first
      | go_keep
      | (have _k := KA; exact KA)
      | (have _k := KB; exact KB)
      | (have _k := KS; exact KS)
      | fail)
    (first
      | (go_at_call 33
         have _t := tokA
         with_reducible refine (HTC0.out _ (by first | exact HW0.out.trans (BBA.out.mono HW0.out.size) | exact HW0.out.trans (BBB.out.mono HW0.out.size) | exact HW0.out.trans (BBS.out.mono HW0.out.size) | exact (HW0.out.trans (BBA.out.mono HW0.out.size)).drew | exact (HW0.out.trans (BBB.out.mono HW0.out.size)).drew | exact (HW0.out.trans (BBS.out.mono HW0.out.size)).drew | exact HW0.out | exact HW0.out.drew | exact below_drewN HW0.out _)).mono ?_
         rintro e wA ⟨rfl, bA⟩
         have BBA : Hid (Below w2.heap.size w2 wA) := Lib.hid (by first | exact BBA.out.trans (bA.mono BBA.out.size) | exact BBB.out.trans (bA.mono BBB.out.size) | exact BBS.out.trans (bA.mono BBS.out.size) | exact BBA.out.drew.trans (bA.mono BBA.out.size) | exact BBB.out.drew.trans (bA.mono BBB.out.size) | exact BBS.out.drew.trans (bA.mono BBS.out.size) | exact ⟨bA.os, bA.tape, bA.output, bA.size, bA.block⟩)
         have KA : (wA.cell? ⟨w.heap.size, 0, none⟩ = some (v) ∧ wA.cell? ⟨w.heap.size + 1, 0, none⟩ = some (.int .i64 kz) ∧ wA.cell? ⟨w.heap.size + 1, 1, none⟩ = some (.string (txt s)) ∧ wA.cell? ⟨w.heap.size + 1, 3, none⟩ = some (.slice (some ⟨bk, ok, none⟩) 2 kc) ∧ wA.cell? ⟨bk, ok, none⟩ = some (.int .i64 (y0 : Int)) ∧ wA.cell? ⟨bk, ok + 1, none⟩ = some (.int .i64 (y1 : Int))) := keepS BBA.out
         clear bA tokA _t)
      | (go_at_call 33
         have _t := tokB
         with_reducible refine (HTC1.out _ (by first | exact HW0.out.trans (BBA.out.mono HW0.out.size) | exact HW0.out.trans (BBB.out.mono HW0.out.size) | exact HW0.out.trans (BBS.out.mono HW0.out.size) | exact (HW0.out.trans (BBA.out.mono HW0.out.size)).drew | exact (HW0.out.trans (BBB.out.mono HW0.out.size)).drew | exact (HW0.out.trans (BBS.out.mono HW0.out.size)).drew | exact HW0.out | exact HW0.out.drew | exact below_drewN HW0.out _)).mono ?_
         rintro e wB ⟨rfl, bB⟩
         have BBB : Hid (Below w2.heap.size w2 wB) := Lib.hid (by first | exact BBA.out.trans (bB.mono BBA.out.size) | exact BBB.out.trans (bB.mono BBB.out.size) | exact BBS.out.trans (bB.mono BBS.out.size) | exact BBA.out.drew.trans (bB.mono BBA.out.size) | exact BBB.out.drew.trans (bB.mono BBB.out.size) | exact BBS.out.drew.trans (bB.mono BBS.out.size) | exact ⟨bB.os, bB.tape, bB.output, bB.size, bB.block⟩)
         have KB : (wB.cell? ⟨w.heap.size, 0, none⟩ = some (v) ∧ wB.cell? ⟨w.heap.size + 1, 0, none⟩ = some (.int .i64 kz) ∧ wB.cell? ⟨w.heap.size + 1, 1, none⟩ = some (.string (txt s)) ∧ wB.cell? ⟨w.heap.size + 1, 3, none⟩ = some (.slice (some ⟨bk, ok, none⟩) 2 kc) ∧ wB.cell? ⟨bk, ok, none⟩ = some (.int .i64 (y0 : Int)) ∧ wB.cell? ⟨bk, ok + 1, none⟩ = some (.int .i64 (y1 : Int))) := keepS BBB.out
         clear bB tokB _t)
      | (go_at_call 89
         have _t := tokS
         with_reducible refine (SG.out _).mono ?_
         rintro e wS ⟨rfl, bS⟩
         have BBS : Hid (Below w2.heap.size w2 wS) := Lib.hid (by first | exact BBA.out.trans (bS.mono BBA.out.size) | exact BBB.out.trans (bS.mono BBB.out.size) | exact BBS.out.trans (bS.mono BBS.out.size) | exact BBA.out.drew.trans (bS.mono BBA.out.size) | exact BBB.out.drew.trans (bS.mono BBB.out.size) | exact BBS.out.drew.trans (bS.mono BBS.out.size) | exact ⟨bS.os, bS.tape, bS.output, bS.size, bS.block⟩)
         have KS : (wS.cell? ⟨w.heap.size, 0, none⟩ = some (v) ∧ wS.cell? ⟨w.heap.size + 1, 0, none⟩ = some (.int .i64 kz) ∧ wS.cell? ⟨w.heap.size + 1, 1, none⟩ = some (.string (txt s)) ∧ wS.cell? ⟨w.heap.size + 1, 3, none⟩ = some (.slice (some ⟨bk, ok, none⟩) 2 kc) ∧ wS.cell? ⟨bk, ok, none⟩ = some (.int .i64 (y0 : Int)) ∧ wS.cell? ⟨bk, ok + 1, none⟩ = some (.int .i64 (y1 : Int))) := keepS BBS.out
         clear bS tokS _t)
      | fail)
  all_goals
    go_wp2_with fail
    go_ret
    exact ⟨by rw [HV.out]; rfl, by first | exact BW.out.trans (BBA.out.mono BW.out.size) | exact BW.out.trans (BBB.out.mono BW.out.size) | exact BW.out.trans (BBS.out.mono BW.out.size) | exact (BW.out.trans (BBA.out.mono BW.out.size)).drew | exact (BW.out.trans (BBB.out.mono BW.out.size)).drew | exact (BW.out.trans (BBS.out.mono BW.out.size)).drew⟩
set_option maxRecDepth 100000 in
set_option maxHeartbeats 8000000 in
theorem bare_one {w0 : World} {l : List ND} {v : Value} {f : Nat} (HT : ToldC w0 l v f) (hlen : ∀ y r t, metN l f y = some r → (tellN l f y t).length ≤ 5120000) {x : List Nat × Nat × Nat} (hx : x ∈ onesL) (h1 : x.2.2 = 1) (w : World) (hw : Below w0.heap.size w0 w) (y0 : Nat) (r0 : Nat × Nat) (hy0 : metN l f y0 = some r0) (kv : Value) (hkv : SlR w0 w0.heap.size 1 IsI kv [(y0 : Int)]) :
    Calls Tryd.prog 62 #[.agg #[v], .agg #[.int .i64 ((x.2.1 : Nat) : Int), .string (txt []), .int .i64 0, kv]] w fun e w' => e = .returned (.string (txt ((x.1 ++ [40]) ++ tellN l f y0 (0) ++ [41]))) ∧ Below w.heap.size w w' := by
  obtain ⟨e1, e2, e7, hq, hl, _, _, h30, h31, h32, _, _⟩ := onesF x hx
  have hsl := sig_ones x hx
  have hml : x.1.length ≤ 8 := by
    have : ∀ x ∈ onesL, x.1.length ≤ 8 := by decide
    exact this x hx
  have g30 := h30 (by omega)
  have g31 := h32 (by omega)
  clear h30 h31 h32
  obtain ⟨bk, ok, kc, rfl, hck⟩ := kid_cells hkv (by simp)
  have hk0 : w0.cell? ⟨bk, ok, none⟩ = some (.int .i64 (y0 : Int)) := hck 0 _ rfl
  have hKL : ([(y0 : Int)] : List Int).length = 1 := rfl
  rw [hKL]
  have hT0 := hlen y0 r0 (0) hy0
  have TC0 : ∀ W, Below w0.heap.size w0 W → Calls Tryd.prog 33 #[.agg #[v], .int .i64 (y0 : Int), .int .i64 (0)] W fun e w' => e = .returned (.string (txt (tellN l f y0 (0)))) ∧ Below W.heap.size W w' := fun W hW => by
    have := HT W y0 (0) hW ⟨r0, hy0⟩ (by omega)
    skip
    exact this
  have TG : Hid (∀ W, Calls Tryd.prog 63 #[.int .i64 ((x.2.1 : Nat) : Int)] W fun e w' => e = .returned (.int .i64 8) ∧ w' = W) := Lib.hid (fun W => by have := r_tight ((x.2.1 : Nat) : Int) W; rw [hl] at this; exact this)
  have SG : Hid (∀ W, Calls Tryd.prog 89 #[.int .i64 ((x.2.1 : Nat) : Int)] W fun e w' => e = .returned (.string (txt x.1)) ∧ Below W.heap.size W w') := Lib.hid (fun W => r_sign hsl W)
  obtain ⟨T0, hTe0⟩ : ∃ T, tellN l f y0 (0) = T := ⟨_, rfl⟩
  rw [hTe0] at TC0 hT0 ⊢
  have zT0 : (txt T0).size ≤ 5120000 := by rw [txt_size]; exact hT0
  have zm : (txt x.1).size ≤ 8 := by rw [txt_size]; exact hml
  obtain ⟨mk, hmk⟩ : ∃ z, x.1 = z := ⟨_, rfl⟩
  rw [hmk] at SG zm ⊢
  obtain ⟨kz, hkz⟩ : ∃ z, ((x.2.1 : Nat) : Int) = z := ⟨_, rfl⟩
  rw [hkz] at TG SG e1 e2 e7 hq ⊢
  have q1 : (kz == 1) = false := by simpa using e1
  have q2 : (kz == 2) = false := by simpa using e2
  have q7 : (kz == 7) = false := by simpa using e7
  rw [hkz] at g30 g31
  have q30 : (kz == 30) = false := by simpa using g30
  have q31 : decide (31 ≤ kz) = false := by simpa using g31
  clear hx h1 hsl hl hml e1 e2 e7 hq hkz hmk g30 g31
  have z0 : ¬ 9223372036854775807 < (txt mk).size + 1 := by omega
  have z1 : ¬ 9223372036854775807 < (txt mk).size + 1 + (txt T0).size := by omega
  have z2 : ¬ 9223372036854775807 < (txt mk).size + 1 + (txt T0).size + 1 := by omega
  have HV : Hid (txt mk ++ (⟨#[40]⟩ : ByteArray) ++ txt T0 ++ (⟨#[41]⟩ : ByteArray) = txt ((mk ++ [40]) ++ T0 ++ [41])) := Lib.hid (by first | (simp only [lit_txt, lit_if, lit_then, lit_else, lit_end, lit_in, lit_colon, lit_open, lit_close, lit_not, txt_app, List.append_assoc]; done) | (rw [← txt_app]; rfl))
  have BW : Hid (Below w.heap.size w ((w.alloc (.cells #[v] 24)).alloc (.cells #[.int .i64 kz, .string (txt []), .int .i64 0, .slice (some ⟨bk, ok, none⟩) 1 kc] 46))) := Lib.hid (((Below.refl _ _).alloc (Nat.le_refl _) _).alloc (by rw [World.size_alloc]; omega) _)
  have HE : Hid (Blk ((w.alloc (.cells #[v] 24)).alloc (.cells #[.int .i64 kz, .string (txt []), .int .i64 0, .slice (some ⟨bk, ok, none⟩) 1 kc] 46)) w.heap.size 24 #[v]) := Lib.hid ((Blk.new _ _ _).alloc _)
  have HNB : Hid (Blk ((w.alloc (.cells #[v] 24)).alloc (.cells #[.int .i64 kz, .string (txt []), .int .i64 0, .slice (some ⟨bk, ok, none⟩) 1 kc] 46)) (w.heap.size + 1) 46 #[.int .i64 kz, .string (txt []), .int .i64 0, .slice (some ⟨bk, ok, none⟩) 1 kc]) := Lib.hid (Blk.new_ (by rw [World.size_alloc]) _ _)
  have HW0 := Lib.hid (hw.trans (BW.out.mono hw.size))
  have HK0 := Lib.hid hk0
  have HTC0 := Lib.hid TC0
  clear hw hkv hck hKL HT hlen hy0 hk0 hT0 TC0 hTe0 zT0 zm
  go_enter Tryd.func62, Tryd.ntmps62
  go_wp2_with (first
    | (go_at_call 63; refine (TG.out _).mono ?_; rintro e w9 ⟨rfl, rfl⟩))
  generalize hw2 : World.alloc (World.alloc w _) _ = w2
  rw [hw2] at BW HE HNB HW0
  have BB0 : Hid (Below w2.heap.size w2 w2) := Lib.hid (Below.refl _ _)
  have k0 : w2.cell? ⟨w.heap.size, 0, none⟩ = some v := HE.out.cell (i := 0) rfl
  have k1 : w2.cell? ⟨w.heap.size + 1, 0, none⟩ = some (.int .i64 kz) := HNB.out.cell (i := 0) rfl
  have k2 : w2.cell? ⟨w.heap.size + 1, 1, none⟩ = some (.string (txt [])) := HNB.out.cell (i := 1) rfl
  have k3 : w2.cell? ⟨w.heap.size + 1, 3, none⟩ = some (.slice (some ⟨bk, ok, none⟩) 1 kc) := HNB.out.cell (i := 3) rfl
  have k4 : w2.cell? ⟨bk, ok, none⟩ = some (.int .i64 (y0 : Int)) := by rw [HW0.out.cell (p := ⟨bk, ok, none⟩) (cell_lt HK0.out)]; exact HK0.out
  clear hw2
  have keepS : ∀ {W : World}, Below w2.heap.size w2 W → (W.cell? ⟨w.heap.size, 0, none⟩ = some (v) ∧ W.cell? ⟨w.heap.size + 1, 0, none⟩ = some (.int .i64 kz) ∧ W.cell? ⟨w.heap.size + 1, 1, none⟩ = some (.string (txt [])) ∧ W.cell? ⟨w.heap.size + 1, 3, none⟩ = some (.slice (some ⟨bk, ok, none⟩) 1 kc) ∧ W.cell? ⟨bk, ok, none⟩ = some (.int .i64 (y0 : Int))) := fun h => ⟨cell_keep h k0, cell_keep h k1, cell_keep h k2, cell_keep h k3, cell_keep h k4⟩
  have tokA : True := trivial
  have tokS : True := trivial
  go_region_held3 (fun W => W.cell? ⟨w.heap.size, 0, none⟩ = some (v) ∧ W.cell? ⟨w.heap.size + 1, 0, none⟩ = some (.int .i64 kz) ∧ W.cell? ⟨w.heap.size + 1, 1, none⟩ = some (.string (txt [])) ∧ W.cell? ⟨w.heap.size + 1, 3, none⟩ = some (.slice (some ⟨bk, ok, none⟩) 1 kc) ∧ W.cell? ⟨bk, ok, none⟩ = some (.int .i64 (y0 : Int)))
    (first
      | go_keep
      | (have _k := KA; exact KA)
      | (have _k := KS; exact KS)
      | fail)
    (first
      | (go_at_call 33
         have _t := tokA
         with_reducible refine (HTC0.out _ (by first | exact HW0.out.trans (BBA.out.mono HW0.out.size) | exact HW0.out.trans (BBS.out.mono HW0.out.size) | exact (HW0.out.trans (BBA.out.mono HW0.out.size)).drew | exact (HW0.out.trans (BBS.out.mono HW0.out.size)).drew | exact HW0.out | exact HW0.out.drew | exact below_drewN HW0.out _)).mono ?_
         rintro e wA ⟨rfl, bA⟩
         have BBA : Hid (Below w2.heap.size w2 wA) := Lib.hid (by first | exact BBA.out.trans (bA.mono BBA.out.size) | exact BBS.out.trans (bA.mono BBS.out.size) | exact BBA.out.drew.trans (bA.mono BBA.out.size) | exact BBS.out.drew.trans (bA.mono BBS.out.size) | exact ⟨bA.os, bA.tape, bA.output, bA.size, bA.block⟩)
         have KA : (wA.cell? ⟨w.heap.size, 0, none⟩ = some (v) ∧ wA.cell? ⟨w.heap.size + 1, 0, none⟩ = some (.int .i64 kz) ∧ wA.cell? ⟨w.heap.size + 1, 1, none⟩ = some (.string (txt [])) ∧ wA.cell? ⟨w.heap.size + 1, 3, none⟩ = some (.slice (some ⟨bk, ok, none⟩) 1 kc) ∧ wA.cell? ⟨bk, ok, none⟩ = some (.int .i64 (y0 : Int))) := keepS BBA.out
         clear bA tokA _t)
      | (go_at_call 89
         have _t := tokS
         with_reducible refine (SG.out _).mono ?_
         rintro e wS ⟨rfl, bS⟩
         have BBS : Hid (Below w2.heap.size w2 wS) := Lib.hid (by first | exact BBA.out.trans (bS.mono BBA.out.size) | exact BBS.out.trans (bS.mono BBS.out.size) | exact BBA.out.drew.trans (bS.mono BBA.out.size) | exact BBS.out.drew.trans (bS.mono BBS.out.size) | exact ⟨bS.os, bS.tape, bS.output, bS.size, bS.block⟩)
         have KS : (wS.cell? ⟨w.heap.size, 0, none⟩ = some (v) ∧ wS.cell? ⟨w.heap.size + 1, 0, none⟩ = some (.int .i64 kz) ∧ wS.cell? ⟨w.heap.size + 1, 1, none⟩ = some (.string (txt [])) ∧ wS.cell? ⟨w.heap.size + 1, 3, none⟩ = some (.slice (some ⟨bk, ok, none⟩) 1 kc) ∧ wS.cell? ⟨bk, ok, none⟩ = some (.int .i64 (y0 : Int))) := keepS BBS.out
         clear bS tokS _t)
      | fail)
  all_goals
    go_wp2_with fail
    go_ret
    exact ⟨by rw [HV.out]; rfl, by first | exact BW.out.trans (BBA.out.mono BW.out.size) | exact BW.out.trans (BBS.out.mono BW.out.size) | exact (BW.out.trans (BBA.out.mono BW.out.size)).drew | exact (BW.out.trans (BBS.out.mono BW.out.size)).drew⟩
set_option maxRecDepth 100000 in
set_option maxHeartbeats 8000000 in
theorem bare_zero {v : Value} {x : List Nat × Nat × Nat} (hx : x ∈ onesL) (h0 : x.2.2 = 0) (w : World) (ka : Option Addr) (kc : Nat) :
    Calls Tryd.prog 62 #[.agg #[v], .agg #[.int .i64 ((x.2.1 : Nat) : Int), .string (txt []), .int .i64 0, .slice ka 0 kc]] w fun e w' => e = .returned (.string (txt (x.1))) ∧ Below w.heap.size w w' := by
  obtain ⟨e1, e2, e7, hq, hl, _, _, h30, h31, h32, _, _⟩ := onesF x hx
  have hsl := sig_ones x hx
  have hml : x.1.length ≤ 8 := by
    have : ∀ x ∈ onesL, x.1.length ≤ 8 := by decide
    exact this x hx
  have g30 := h30 (by omega)
  have g31 := h32 (by omega)
  clear h30 h31 h32
  have TG : Hid (∀ W, Calls Tryd.prog 63 #[.int .i64 ((x.2.1 : Nat) : Int)] W fun e w' => e = .returned (.int .i64 8) ∧ w' = W) := Lib.hid (fun W => by have := r_tight ((x.2.1 : Nat) : Int) W; rw [hl] at this; exact this)
  have SG : Hid (∀ W, Calls Tryd.prog 89 #[.int .i64 ((x.2.1 : Nat) : Int)] W fun e w' => e = .returned (.string (txt x.1)) ∧ Below W.heap.size W w') := Lib.hid (fun W => r_sign hsl W)
  obtain ⟨kz, hkz⟩ : ∃ z, ((x.2.1 : Nat) : Int) = z := ⟨_, rfl⟩
  rw [hkz] at TG SG e1 e2 e7 hq g30 g31 ⊢
  obtain ⟨mk, hmk⟩ : ∃ z, x.1 = z := ⟨_, rfl⟩
  rw [hmk] at SG ⊢
  have BW : Hid (Below w.heap.size w ((w.alloc (.cells #[v] 24)).alloc (.cells #[.int .i64 kz, .string (txt []), .int .i64 0, .slice ka 0 kc] 46))) := Lib.hid (((Below.refl _ _).alloc (Nat.le_refl _) _).alloc (by rw [World.size_alloc]; omega) _)
  have q1 : (kz == 1) = false := by simpa using e1
  have q2 : (kz == 2) = false := by simpa using e2
  have q7 : (kz == 7) = false := by simpa using e7
  have q30 : (kz == 30) = false := by simpa using g30
  have q31 : decide (31 ≤ kz) = false := by simpa using g31
  clear hx h0 hsl hl hml e1 e2 e7 hq hkz hmk g30 g31
  go_enter Tryd.func62, Tryd.ntmps62
  go_wp2_with (first
    | (go_at_call 63; refine (TG.out _).mono ?_; rintro e w9 ⟨rfl, rfl⟩)
    | (go_at_call 89; refine (SG.out _).mono ?_; rintro e w5 ⟨rfl, b5⟩))
  go_ret
  exact ⟨rfl, by first | exact BW.out.trans (b5.mono BW.out.size) | exact BW.out⟩
set_option maxRecDepth 100000 in
set_option maxHeartbeats 8000000 in
theorem bare_int {v : Value} (n : Int) (h0 : -9223372036854775808 ≤ n) (h1 : n ≤ 9223372036854775807) (w : World) (ka : Option Addr) (kc : Nat) :
    Calls Tryd.prog 62 #[.agg #[v], .agg #[.int .i64 1, .string (txt []), .int .i64 n, .slice ka 0 kc]] w fun e w' => e = .returned (.string (txt (showN n))) ∧ Below w.heap.size w w' := by
  have TG : Hid (∀ W, Calls Tryd.prog 63 #[.int .i64 1] W fun e w' => e = .returned (.int .i64 8) ∧ w' = W) := Lib.hid (fun W => by have := r_tight 1 W; exact this)
  have BW : Hid (Below w.heap.size w ((w.alloc (.cells #[v] 24)).alloc (.cells #[.int .i64 1, .string (txt []), .int .i64 n, .slice ka 0 kc] 46))) := Lib.hid (((Below.refl _ _).alloc (Nat.le_refl _) _).alloc (by rw [World.size_alloc]; omega) _)
  have SH : Hid (∀ W, Calls Tryd.prog 87 #[.int .i64 n] W fun e w' => e = .returned (.string (txt (showN n))) ∧ Below W.heap.size W w') := Lib.hid (fun W => ref_show n h0 h1 W)
  clear h0 h1
  go_enter Tryd.func62, Tryd.ntmps62
  go_wp2_with (first
    | (go_at_call 63; refine (TG.out _).mono ?_; rintro e w9 ⟨rfl, rfl⟩)
    | (go_at_call 87; refine (SH.out _).mono ?_; rintro e w5 ⟨rfl, b5⟩))
  go_ret
  exact ⟨rfl, by first | exact BW.out.trans (b5.mono BW.out.size) | exact BW.out⟩
set_option maxRecDepth 100000 in
set_option maxHeartbeats 8000000 in
theorem bare_text {v : Value} (s : List Nat) (hb : Bytes s) (hs : s.length ≤ 4096) (w : World) (ka : Option Addr) (kc : Nat) :
    Calls Tryd.prog 62 #[.agg #[v], .agg #[.int .i64 2, .string (txt s), .int .i64 0, .slice ka 0 kc]] w fun e w' => e = .returned (.string (txt (quoteN s))) ∧ Below w.heap.size w w' := by
  have TG : Hid (∀ W, Calls Tryd.prog 63 #[.int .i64 2] W fun e w' => e = .returned (.int .i64 8) ∧ w' = W) := Lib.hid (fun W => by have := r_tight 2 W; exact this)
  have BW : Hid (Below w.heap.size w ((w.alloc (.cells #[v] 24)).alloc (.cells #[.int .i64 2, .string (txt s), .int .i64 0, .slice ka 0 kc] 46))) := Lib.hid (((Below.refl _ _).alloc (Nat.le_refl _) _).alloc (by rw [World.size_alloc]; omega) _)
  have SH : Hid (∀ W, Calls Tryd.prog 88 #[.string (txt s)] W fun e w' => e = .returned (.string (txt (quoteN s))) ∧ Below W.heap.size W w') := Lib.hid (fun W => by have := ref_quote (txt s) (by rw [txt_size]; omega) W; rw [bs_txt hb] at this; exact this)
  clear hb hs
  go_enter Tryd.func62, Tryd.ntmps62
  go_wp2_with (first
    | (go_at_call 63; refine (TG.out _).mono ?_; rintro e w9 ⟨rfl, rfl⟩)
    | (go_at_call 88; refine (SH.out _).mono ?_; rintro e w5 ⟨rfl, b5⟩))
  go_ret
  exact ⟨rfl, by first | exact BW.out.trans (b5.mono BW.out.size) | exact BW.out⟩
set_option maxRecDepth 100000 in
set_option maxHeartbeats 8000000 in
theorem bare_name {v : Value} (s : List Nat) (w : World) (ka : Option Addr) (kc : Nat) :
    Calls Tryd.prog 62 #[.agg #[v], .agg #[.int .i64 7, .string (txt s), .int .i64 0, .slice ka 0 kc]] w fun e w' => e = .returned (.string (txt (s))) ∧ Below w.heap.size w w' := by
  have TG : Hid (∀ W, Calls Tryd.prog 63 #[.int .i64 7] W fun e w' => e = .returned (.int .i64 8) ∧ w' = W) := Lib.hid (fun W => by have := r_tight 7 W; exact this)
  have BW : Hid (Below w.heap.size w ((w.alloc (.cells #[v] 24)).alloc (.cells #[.int .i64 7, .string (txt s), .int .i64 0, .slice ka 0 kc] 46))) := Lib.hid (((Below.refl _ _).alloc (Nat.le_refl _) _).alloc (by rw [World.size_alloc]; omega) _)

  go_enter Tryd.func62, Tryd.ntmps62
  go_wp2_with (first
    | (go_at_call 63; refine (TG.out _).mono ?_; rintro e w9 ⟨rfl, rfl⟩)
    | fail)
  go_ret
  exact ⟨rfl, by first | exact BW.out.trans (b5.mono BW.out.size) | exact BW.out⟩
theorem kidT_at (g : Nat → Nat → List Nat) (d : ND) (i t y : Nat) (h : d.kids[i]? = some (y : Int)) : kidT g d i t = g y t := by unfold kidT; rw [h]; rfl
set_option maxHeartbeats 8000000 in
theorem bare_step {w0 : World} {l : List ND} {v : Value} {f : Nat} (hok : ∀ d ∈ l, NdOk d) (h256 : l.length ≤ 256) (HT : ToldC w0 l v f) : BareC w0 l v f := by
  have hlen : ∀ y r t, metN l f y = some r → (tellN l f y t).length ≤ 5120000 := fun y r t h => by
    have h1 := tell_len l hok f y t r h
    have h2 := metN_in l f y r h
    omega
  intro W m d kv hW hd ⟨r, hr⟩ hkv
  simp only [metN, hd] at hr
  have hnd := hok d (List.mem_iff_getElem?.2 ⟨m, hd⟩)
  by_cases hmay : mayE d = true
  · rw [if_pos hmay] at hr
    obtain ⟨z, hz, _⟩ := Option.map_eq_some_iff.1 hr
    obtain ⟨k, hk⟩ := kind_nat hmay
    have hml := may_text hmay
    have hkid : ∀ i q, d.kids[i]? = some q → ∃ (y : Nat) (x : Nat × Nat), q = (y : Int) ∧ metN l f y = some x := fun i q hq => metL_kid hz hq
    obtain ⟨dk, ds, dn, dks⟩ := d
    simp only at hk hml hkid hkv
    subst hk
    obtain ⟨ts, hts⟩ : ∃ ts : List Tr, ts.length = dks.length := ⟨List.replicate dks.length (.node 0 [] 0 []), List.length_replicate⟩
    have hsh := shape_of hts hmay
    obtain ⟨hb, _, n1, n2⟩ := hnd
    simp only at hb n1 n2
    have one : ∀ (u : Tr), ts = [u] → ∃ (y : Nat) (x : Nat × Nat), dks = [(y : Int)] ∧ metN l f y = some x := fun u e => by
      subst e
      obtain ⟨q, hq⟩ := list1 hts.symm
      subst hq
      obtain ⟨y, x, e, h⟩ := hkid 0 q rfl
      exact ⟨y, x, by rw [e], h⟩
    have two : ∀ (u u' : Tr), ts = [u, u'] → ∃ (y y' : Nat) (x x' : Nat × Nat), dks = [(y : Int), (y' : Int)] ∧ metN l f y = some x ∧ metN l f y' = some x' := fun u u' e => by
      subst e
      obtain ⟨q, q', hq⟩ := list2 hts.symm
      subst hq
      obtain ⟨y, x, e, h⟩ := hkid 0 q rfl
      obtain ⟨y', x', e', h'⟩ := hkid 1 q' rfl
      exact ⟨y, y', x, x', by rw [e, e'], h, h'⟩
    have none_ : ts = [] → ∃ ka kc, kv = .slice ka 0 kc := fun e => by
      subst e
      have : dks = [] := List.eq_nil_of_length_eq_zero hts.symm
      subst this
      obtain ⟨a, c, h, _⟩ := hkv.form
      exact ⟨a, c, h⟩
    clear hz hr hmay
    cases hsh with
    | int h =>
      obtain ⟨ka, kc, rfl⟩ := none_ rfl
      exact bare_int dn n1 n2 W ka kc
    | text h =>
      obtain ⟨ka, kc, rfl⟩ := none_ rfl
      exact bare_text ds hb h W ka kc
    | name h =>
      obtain ⟨ka, kc, rfl⟩ := none_ rfl
      exact bare_name ds W ka kc
    | zero hy h =>
      obtain ⟨ka, kc, rfl⟩ := none_ rfl
      have he : dks = [] := List.eq_nil_of_length_eq_zero hts.symm
      subst he
      have := bare_zero (v := v) hy h W ka kc
      rw [body_g]
      simp only
      rw [show ([] : List Int).length = 0 from rfl, (body_zero (s := []) (n := 0) (G := _) (K := fun _ _ => []) hy h).1]
      exact this
    | post hx h h11 hp =>
      obtain ⟨y, x, rfl, hy⟩ := one _ rfl
      rw [body_g]
      simp only
      rw [(body_post (s := ds) (n := 0) (c := _) (G := _) (K := fun _ _ => []) hx h).1, kidT_at _ _ 0 7 y rfl]
      exact bare_post HT hlen hx h ds hml W hW y x hy kv hkv
    | parent =>
      obtain ⟨y, x, rfl, hy⟩ := one _ rfl
      have e : bodyT (tellN l f) ⟨((11 : Nat) : Int), [], 0, [(y : Int)]⟩ = tellN l f y 7 ++ ([94] ++ []) := rfl
      rw [e]
      exact bare_post HT hlen parent_mem rfl [] (by simp) W hW y x hy kv hkv
    | not_ =>
      obtain ⟨y, x, rfl, hy⟩ := one _ rfl
      exact bare_not HT hlen W hW y x hy kv hkv
    | one hy h =>
      obtain ⟨y, x, rfl, hy'⟩ := one _ rfl
      rw [body_g]
      simp only
      rw [show ([(y : Int)] : List Int).length = 1 from rfl, (body_one (s := []) (n := 0) (G := _) (K := fun _ _ => []) hy h).1, kidT_at _ _ 0 0 y rfl]
      exact bare_one HT hlen hy h W hW y x hy' kv hkv
    | @bin q u u' hx h =>
      obtain ⟨y, y', x, x', rfl, hy, hy'⟩ := two _ _ rfl
      rw [body_g]
      simp only
      rw [(body_bin (s := []) (n := 0) (c := _) (G := _) (K := fun _ _ => []) hx h).1]
      by_cases h4 : q.2.2 = 4
      · rw [if_pos h4, kidT_at _ _ 0 5 y rfl, h4, kidT_at _ _ 1 (4 + 1) y' rfl]
        exact bare_bin4 HT hlen hx h4 W hW y x hy y' x' hy' kv hkv
      · rw [if_neg h4, kidT_at _ _ 0 q.2.2 y rfl, kidT_at _ _ 1 (q.2.2 + 1) y' rfl]
        exact bare_bin HT hlen hx h h4 W hW y x hy y' x' hy' kv hkv
    | iff =>
      have : ∃ (y y' y'' : Nat) (x x' x'' : Nat × Nat), dks = [(y : Int), (y' : Int), (y'' : Int)] ∧ metN l f y = some x ∧ metN l f y' = some x' ∧ metN l f y'' = some x'' := by
        obtain ⟨q, q', q'', hq⟩ := list3 hts.symm
        subst hq
        obtain ⟨y, x, e, h⟩ := hkid 0 q rfl
        obtain ⟨y', x', e', h'⟩ := hkid 1 q' rfl
        obtain ⟨y'', x'', e'', h''⟩ := hkid 2 q'' rfl
        exact ⟨y, y', y'', x, x', x'', by rw [e, e', e''], h, h', h''⟩
      obtain ⟨y, y', y'', x, x', x'', rfl, hy, hy', hy''⟩ := this
      exact bare_if HT hlen W hW y x hy y' x' hy' y'' x'' hy'' kv hkv
    | loop hy h hp =>
      obtain ⟨y, y', x, x', rfl, hk1, hk2⟩ := two _ _ rfl
      rw [body_g]
      simp only
      rw [(body_loop (s := ds) (n := 0) (c := _) (G := _) (K := fun _ _ => []) hy h).1, kidT_at _ _ 0 0 y rfl, kidT_at _ _ 1 0 y' rfl]
      exact bare_loop HT hlen hy h ds hml W hW y x hk1 y' x' hk2 kv hkv
  · rw [if_neg hmay] at hr; cases hr
set_option maxRecDepth 100000 in
set_option maxHeartbeats 8000000 in
theorem told_step {w0 : World} {l : List ND} {v : Value} {f : Nat} (hs : SlR w0 w0.heap.size 4 (ND.Is w0 w0.heap.size) v l) (hok : ∀ d ∈ l, NdOk d) (h256 : l.length ≤ 256) (HB : BareC w0 l v f) : ToldC w0 l v (f + 1) := by
  intro W m t hW ⟨r, hr⟩ ht
  have hlen := tell_len l hok (f + 1) m t r hr
  have hin := metN_in l (f + 1) m r hr
  have hr0 := hr
  simp only [metN] at hr
  cases hd : l[m]? with
  | none => rw [hd] at hr; cases hr
  | some d =>
    clear hr
    have hval : tellN l (f + 1) m t = if levelN d.kind < t then [40] ++ bodyT (tellN l f) d ++ [41] else bodyT (tellN l f) d := by rw [tellN, hd]
    rw [hval] at hlen ⊢
    have hml : m < l.length := (List.getElem?_eq_some_iff.1 hd).1
    obtain ⟨a, c, rfl⟩ : ∃ a c, v = .slice a l.length c := by obtain ⟨a, c, h, _⟩ := hs.form; exact ⟨a, c, h⟩
    obtain ⟨bN, off, x, rfl, hbN, _, ⟨kv, rfl, hks⟩, hx⟩ := (hs.below hW).at_ hd
    obtain ⟨ka, kc, rfl, _⟩ := hks.form
    obtain ⟨kn, hkn⟩ : ∃ z, d.kids.length = z := ⟨_, rfl⟩
    have BC := Lib.hid (fun Y (hY : Below w0.heap.size w0 Y) => HB Y m d _ hY hd ⟨r, hr0⟩ hks)
    rw [hkn] at hx BC
    obtain ⟨n, hn⟩ : ∃ n, l.length = n := ⟨_, rfl⟩
    rw [hn] at BC hml h256 ⊢
    have x0 : W.cell? ⟨bN, off + m * 4, none⟩ = some (.int .i64 d.kind) := hx 0 _ rfl
    have x1 : W.cell? ⟨bN, off + m * 4 + 1, none⟩ = some (.string (txt d.text)) := hx 1 _ rfl
    have x2 : W.cell? ⟨bN, off + m * 4 + 2, none⟩ = some (.int .i64 d.num) := hx 2 _ rfl
    have x3 : W.cell? ⟨bN, off + m * 4 + 3, none⟩ = some (.slice ka kn kc) := hx 3 _ rfl
    have lb : bN < W.heap.size := by have := hW.size; omega
    have m0 : (0 : Int) ≤ (m : Int) := Int.natCast_nonneg _
    have mn : (m : Int) < (n : Int) := by omega
    have TG := Lib.hid (fun Y => r_tight d.kind Y)
    obtain ⟨lv, hlv⟩ : ∃ z, levelN d.kind = z := ⟨_, rfl⟩
    rw [hlv] at TG hlen ⊢
    obtain ⟨T, hT⟩ : ∃ T, bodyT (tellN l f) d = T := ⟨_, rfl⟩
    rw [hT] at BC hlen ⊢
    have BA : Hid (Below W.heap.size W ((W.alloc (.cells #[.slice (some ⟨bN, off, none⟩) n c] 24)).alloc (.cells #[.int .i64 d.kind, .string (txt d.text), .int .i64 d.num, .slice ka kn kc] 46))) := Lib.hid (((Below.refl _ _).alloc (Nat.le_refl _) _).alloc (by rw [World.size_alloc]; omega) _)
    have NB : Hid (Blk ((W.alloc (.cells #[.slice (some ⟨bN, off, none⟩) n c] 24)).alloc (.cells #[.int .i64 d.kind, .string (txt d.text), .int .i64 d.num, .slice ka kn kc] 46)) (W.heap.size + 1) 46 #[.int .i64 d.kind, .string (txt d.text), .int .i64 d.num, .slice ka kn kc]) := Lib.hid (Blk.new_ (by rw [World.size_alloc]) _ _)
    have HW := Lib.hid hW
    by_cases hlt : lv < t
    · have d1 : decide ((lv : Int) < (t : Int)) = true := by simp only [decide_eq_true_eq]; omega
      have d2 : decide (lv < t) = true := by simpa using hlt
      rw [if_pos hlt] at hlen ⊢
      have zT : (txt T).size ≤ 5120000 := by rw [txt_size]; simp only [List.length_append, List.length_singleton] at hlen; omega
      have z1 : ¬ 9223372036854775807 < 1 + (txt T).size := by omega
      have z2 : ¬ 9223372036854775807 < 1 + (txt T).size + 1 := by omega
      have HV : Hid ((⟨#[40]⟩ : ByteArray) ++ txt T ++ (⟨#[41]⟩ : ByteArray) = txt ([40] ++ T ++ [41])) := Lib.hid (by simp only [lit_open, lit_close, txt_app])
      clear hlt hlen hin hr0 hd hval hx hks hkn hn hlv hT hbN hs hok HB zT hW
      go_enter Tryd.func33, Tryd.ntmps33
      go_wp2_with (first
        | (go_at_call 62; refine (BC.out _ (HW.out.trans (BA.out.mono HW.out.size))).mono ?_; rintro e w5 ⟨rfl, b5⟩; have B5 := Lib.hid (BA.out.trans (b5.mono BA.out.size)); have NB5 := NB.out.below b5 NB.out.lt; have n5 : w5.cell? ⟨W.heap.size + 1, 0, none⟩ = some (.int .i64 d.kind) := NB5.cell (i := 0) rfl; have l5 := NB5.lt; clear b5 NB5)
        | (go_at_call 63; refine (TG.out _).mono ?_; rintro e w6 ⟨rfl, rfl⟩))
      go_ret
      exact ⟨by rw [HV.out]; rfl, B5.out⟩
    · have d1 : decide ((lv : Int) < (t : Int)) = false := by simp only [decide_eq_false_iff_not]; omega
      have d2 : decide (lv < t) = false := by simpa using hlt
      rw [if_neg hlt]
      clear hlt hlen hin hr0 hd hval hx hks hkn hn hlv hT hbN hs hok HB hW
      go_enter Tryd.func33, Tryd.ntmps33
      go_wp2_with (first
        | (go_at_call 62; refine (BC.out _ (HW.out.trans (BA.out.mono HW.out.size))).mono ?_; rintro e w5 ⟨rfl, b5⟩; have B5 := Lib.hid (BA.out.trans (b5.mono BA.out.size)); have NB5 := NB.out.below b5 NB.out.lt; have n5 : w5.cell? ⟨W.heap.size + 1, 0, none⟩ = some (.int .i64 d.kind) := NB5.cell (i := 0) rfl; have l5 := NB5.lt; clear b5 NB5)
        | (go_at_call 63; refine (TG.out _).mono ?_; rintro e w6 ⟨rfl, rfl⟩))
      go_ret
      exact ⟨rfl, B5.out⟩
theorem told_all {w0 : World} {l : List ND} {v : Value} (hs : SlR w0 w0.heap.size 4 (ND.Is w0 w0.heap.size) v l) (hok : ∀ d ∈ l, NdOk d) (h256 : l.length ≤ 256) : ∀ f, ToldC w0 l v f
  | 0 => fun W m t _ h _ => by obtain ⟨r, h⟩ := h; simp only [metN] at h; cases h
  | f + 1 => told_step hs hok h256 (bare_step hok h256 (told_all hs hok h256 f))
end Go.Proofs.YtlenenfgedgmhaaDoor
