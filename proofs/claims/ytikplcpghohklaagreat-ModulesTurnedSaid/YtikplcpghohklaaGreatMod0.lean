/- Small functions of modules and its reference: a fault at a place; the number of the language of a name; two rows of numbers. -/
import Derived.Test.YtikplcpghohklaaGreatRCheck
import Derived.Test.YtikplcpghohklaaGreatModPlain
namespace Go.Proofs.YtikplcpghohklaaGreat
set_option linter.unusedSimpArgs false
set_option linter.unusedVariables false
open Go.RowKit

/-- the cells of languages -/
abbrev LsR (w : World) (B : Nat) (v : Value) (ls : List Language) : Prop := SlR w B 8 (Language.Is w B) v ls
theorem LsR.at_world {w w' : World} {B : Nat} {v : Value} {ls : List Language} (h : LsR w B v ls) (hb : Below B w w') (hB : B ≤ w'.heap.size) : LsR w' w'.heap.size v ls :=
  h.keep (fun _ hp => hb.cell hp) (fun _ _ r => r.keep (fun _ hp => hb.cell hp) hB) hB
theorem LsR.same_base {w w' : World} {B : Nat} {v : Value} {ls : List Language} (h : LsR w B v ls) (hb : Below B w w') : LsR w' B v ls :=
  h.keep (fun _ hp => hb.cell hp) (fun _ _ r => r.keep (fun _ hp => hb.cell hp) (Nat.le_refl _)) (Nat.le_refl _)

theorem r_place (n l a p e : Int) (h : wrap64 (wrap64 (10 * n) + l) = 10 * n + l) (w : World) : Calls Tryz.prog 40 #[.int .i64 n, .int .i64 l, .int .i64 a, .int .i64 p, .int .i64 e] w fun en w' => en = .returned (fltV (10 * n + l) a p e) ∧ Below w.heap.size w w' := by
  have H := Lib.hid h
  clear h
  go_enter Tryz.func40, Tryz.ntmps40
  go_wp2_with fail
  refine bodyPost_ret (v := fltV (wrap64 (wrap64 (10 * n) + l)) a p e) (by simp [results, Tryz.results40, go_sem]) rfl ⟨by rw [H.out], ?_⟩
  exact (Below.refl _ _).alloc (Nat.le_refl _) _
theorem m_fault (n l a p e : Int) (h : wrap64 (wrap64 (10 * n) + l) = 10 * n + l) (w : World) : Calls Tryz.prog 37 #[.int .i64 n, .int .i64 l, .int .i64 a, .int .i64 p, .int .i64 e] w fun en w' => en = .returned (fltV (10 * n + l) a p e) ∧ Below w.heap.size w w' := by
  have H := Lib.hid h
  clear h
  go_enter Tryz.func37, Tryz.ntmps37
  go_wp2_with fail
  refine bodyPost_ret (v := fltV (wrap64 (wrap64 (10 * n) + l)) a p e) (by simp [results, Tryz.results37, go_sem]) rfl ⟨by rw [H.out], ?_⟩
  exact (Below.refl _ _).alloc (Nat.le_refl _) _
theorem place_small {n : Nat} {l : Int} (hn : n ≤ 128) (h0 : 0 ≤ l) (hl : l ≤ 6) : wrap64 (wrap64 (10 * (n : Int)) + l) = 10 * (n : Int) + l := by unfold wrap64; omega

/-- the number of the language of a name -/
def findN (ls : List Language) (s : ByteArray) : Int := firstAt (fun x : Language => decide (x.name = s)) ls
set_option maxRecDepth 100000 in
set_option maxHeartbeats 1000000 in
theorem r_find {ls : List Language} {v : Value} (s : ByteArray) (w w0 : World) (hs : LsR w0 w0.heap.size v ls) (hw : Below w0.heap.size w0 w) :
    Calls Tryz.prog 73 #[v, .string s] w fun e w' => e = .returned (.int .i64 (findN ls s)) ∧ Quiet w w' := by
  unfold findN
  obtain ⟨a, c, rfl⟩ : ∃ a c, v = .slice a ls.length c := by obtain ⟨a, c, h, _⟩ := hs.form; exact ⟨a, c, h⟩
  have hn : ls.length ≤ 9223372036854775807 := by have := hs.caps; unfold maxLen at this; omega
  obtain ⟨n, hlen⟩ : ∃ n, ls.length = n := ⟨_, rfl⟩
  rw [hlen] at hs hn ⊢
  have Hlen := Lib.hid hlen
  have Hs := Lib.hid hs
  have Hw := Lib.hid hw
  clear hs hlen hw
  go_enter Tryz.func73, Tryz.ntmps73
  go_wp2_with fail
  go_loopw [5] (fun j wr => ∃ k : Nat, k ≤ n ∧ j = .int .i64 k ∧ Quiet w wr ∧ Hid (∀ i d, i < k → ls[i]? = some d → (fun x : Language => decide (x.name = s)) d = false)) (fun j _ => n - (intOf j).toNat)
  case atStart => exact ⟨0, Nat.zero_le _, rfl, Quiet.refl _, fun i d hi => by omega⟩
  case round =>
    obtain ⟨k, hk, rfl, hq, hf⟩ := hrel
    have hb := hq.below w.heap.size
    by_cases hlt : k < n
    · obtain ⟨y, hd⟩ := get_some Hlen.out hlt
      have hw1 := Hw.out.trans (hb.mono Hw.out.size)
      obtain ⟨b, off, x, rfl, hbB, hxl, ⟨v1, v2, v3, v4, v5, v6, rfl, _⟩, hx⟩ := (Hs.out.below hw1).at_ hd
      have h0 := hx 0 _ rfl
      simp only [Nat.add_zero] at h0
      have Hd := Lib.hid hd
      obtain ⟨z, hz⟩ : ∃ z, y.name = z := ⟨_, rfl⟩
      have Hz := Lib.hid hz
      rw [hz] at h0
      clear hd hx hxl hw1 hz
      by_cases hys : z = s
      · have e1 : (z.toList == s.toList) = true := by rw [hys]; simp
        have hv : firstAt (fun x : Language => decide (x.name = s)) ls = k := firstAt_here Hd.out (by simp [Hz.out, hys]) hf.out
        have HV := Lib.hid hv
        clear hys hv
        go_wp2_with fail
        go_ret
        exact ⟨by rw [HV.out]; rfl, hq⟩
      · have e1 : (z.toList == s.toList) = false := by simpa [toList_inj] using hys
        have Hp := Lib.hid (show (fun x : Language => decide (x.name = s)) y = false by simp [Hz.out, hys])
        clear hys
        go_wp2_with fail
        go_roundw
        case rel => exact ⟨k + 1, by omega, by go_num, hq, so_far1 Hd.out Hp.out hf.out⟩
        case measure => simp [intOf]; omega
    · have hge : n ≤ k := by omega
      clear hlt
      go_wp2_with fail
      go_ret
      exact ⟨by rw [firstAt_none (fun i d hi => hf.out i d (by have := Hlen.out; omega))]; rfl, hq⟩

end Go.Proofs.YtikplcpghohklaaGreat
