/- The reference's ready: are all that a language uses in the row? -/
import Derived.Test.YtikplcpghohklaaGreatOrdPlain
namespace Go.Proofs.YtikplcpghohklaaGreat
set_option linter.unusedSimpArgs false
set_option linter.unusedVariables false
open Go.RowKit

set_option maxRecDepth 100000 in
set_option maxHeartbeats 4000000 in
theorem r_ready {ls : List Language} {v : Value} (w w0 : World) (g n0 : Nat) (I : Nat → Bool) (hs : LsR w0 w0.heap.size v ls) (hw : Below w0.heap.size w0 w) (hlen : ls.length ≤ 128) (hfound : AllFound ls) (hn0 : n0 < ls.length)
    (hI : w.rowIs g 4 ls.length (fun j => .bool (I j))) (b : Bool) (hb : (∃ u, (webN ls)[n0]? = some u ∧ u.all I = b)) :
    Calls Tryz.prog 121 #[v, .slice (some ⟨g, 0, none⟩) ls.length ls.length, .int .i64 (n0 : Int)] w fun e w' => e = .returned (.bool b) ∧ Quiet w w' := by
  obtain ⟨a, c, rfl⟩ : ∃ a c, v = .slice a ls.length c := by obtain ⟨a, c, h, _⟩ := hs.form; exact ⟨a, c, h⟩
  obtain ⟨l, hd⟩ := get_some rfl hn0
  obtain ⟨u, hu, hub⟩ := hb
  have hu2 := webN_at hd
  rw [hu] at hu2
  injection hu2 with hu2
  have Hfd := Lib.hid (fun (k : Nat) (s : ByteArray) (hk : l.uses[k]? = some s) => hfound l (List.mem_iff_getElem?.2 ⟨n0, hd⟩) s (List.mem_iff_getElem?.2 ⟨k, hk⟩))
  have Hlt := Lib.hid (fun s => findN_lt ls s)
  have HF := Lib.hid (fun s W (h : Below w0.heap.size w0 W) => r_find s W w0 hs h)
  obtain ⟨b0, off, x, rfl, hbB, hxl, ⟨v1, v2, v3, v4, v5, v6, rfl, su, _⟩, hx⟩ := hs.at_ hd
  obtain ⟨n, hn⟩ : ∃ n, ls.length = n := ⟨_, rfl⟩
  rw [hn] at hs hlen hn0 hI Hlt HF ⊢
  obtain ⟨m, hm⟩ : ∃ m, l.uses.length = m := ⟨_, rfl⟩
  obtain ⟨ua, uc, rfl⟩ : ∃ a c, v1 = .slice a m c := by obtain ⟨a, c, h, _⟩ := su.form; exact ⟨a, c, by rw [h, hm]⟩
  have X2 := Lib.hid (hx 2 _ rfl)
  have Hm := Lib.hid hm
  have Su := Lib.hid su
  have hmc := su.caps
  have hm63 : m ≤ 9223372036854775807 := by unfold maxLen at hmc; omega
  have Hw := Lib.hid hw
  have HI := Lib.hid hI
  have Hub := Lib.hid (show (l.uses.map fun s => (findN ls s).toNat).all I = b by rw [← hu2]; exact hub)
  have hlt0 := hn0
  clear hs hw hI hub hu hu2 hd hn hm su hmc hx hxl hfound
  go_enter Tryz.func121, Tryz.ntmps121
  go_wp2_with fail
  go_loopw [7] (fun j wr => ∃ k : Nat, k ≤ m ∧ j = .int .i64 (k : Int) ∧ Hid (Quiet w wr) ∧ Hid (((l.uses.map fun s => (findN ls s).toNat).take k).all I = true)) (fun j _ => m - (intOf j).toNat)
  case atStart => exact ⟨0, Nat.zero_le _, rfl, Quiet.refl _, by simp [Hid]⟩
  case round =>
    obtain ⟨k, hk, rfl, hq, hA⟩ := hrel
    have hWr := Hw.out.trans ((hq.out.below w.heap.size).mono Hw.out.size)
    have x2 : wr.cell? ⟨b0, off + n0 * 8 + 2, none⟩ = some (.slice ua m uc) := (hWr.cell (p := ⟨b0, off + n0 * 8 + 2, none⟩) hbB).trans X2.out
    by_cases hkm : k < m
    · obtain ⟨s, hsk⟩ := get_some Hm.out hkm
      obtain ⟨b2, off2, y, rfl, hb2, hyl, ⟨rfl, _⟩, hy⟩ := Su.out.at_ hsk
      have y0 : wr.cell? ⟨b2, off2 + k, none⟩ = some (.string s) := (hWr.cell (p := ⟨b2, off2 + k, none⟩) hb2).trans (by have := hy 0 _ rfl; simpa using this)
      obtain ⟨f, hf⟩ : ∃ f : Nat, findN ls s = (f : Int) := ⟨(findN ls s).toNat, by have := Hfd.out k s hsk; omega⟩
      have hfn : f < n := by have := Hlt.out s; omega
      have HFs := Lib.hid (HF.out s wr hWr)
      rw [hf] at HFs
      have e1 : (l.uses.map fun s => (findN ls s).toNat)[k]? = some f := by rw [List.getElem?_map, hsk]; simp [hf]
      have E1 := Lib.hid e1
      clear hy hyl hsk hf hWr e1
      rcases hI : I f with _ | _
      · have hv : b = false := by
          rw [← Hub.out, List.all_eq_false]
          exact ⟨f, List.mem_iff_getElem?.2 ⟨k, E1.out⟩, by simp [hI]⟩
        have HV := Lib.hid hv
        clear hv
        go_wp2_with (go_at_call 73; with_reducible refine HFs.out.mono ?_; rintro e w1 ⟨rfl, qq⟩; have c1 : w1.cell? ⟨g, f, none⟩ = some (.bool false) := by rw [((hq.out.trans qq).below w.heap.size).cell (p := ⟨g, f, none⟩) HI.out.lt, HI.out.cell hfn, hI])
        go_ret
        exact ⟨by rw [HV.out]; rfl, hq.out.trans qq⟩
      · have hA2 : Hid (((l.uses.map fun s => (findN ls s).toNat).take (k + 1)).all I = true) := all_take E1.out I hA.out hI
        go_wp2_with (go_at_call 73; with_reducible refine HFs.out.mono ?_; rintro e w1 ⟨rfl, qq⟩; have c1 : w1.cell? ⟨g, f, none⟩ = some (.bool true) := by rw [((hq.out.trans qq).below w.heap.size).cell (p := ⟨g, f, none⟩) HI.out.lt, HI.out.cell hfn, hI])
        go_roundw
        case rel => exact ⟨k + 1, by omega, by go_num, hq.out.trans qq, hA2⟩
        case measure => simp [intOf]; omega
    · obtain rfl : m = k := by omega
      have hv : b = true := by
        rw [← Hub.out]
        have := hA.out
        rw [List.take_of_length_le (by rw [List.length_map, Hm.out]; exact Nat.le_refl _)] at this
        exact this
      have HV := Lib.hid hv
      clear hkm hWr hv
      go_wp2_with fail
      go_ret
      exact ⟨by rw [HV.out]; rfl, hq.out⟩
end Go.Proofs.YtikplcpghohklaaGreat
