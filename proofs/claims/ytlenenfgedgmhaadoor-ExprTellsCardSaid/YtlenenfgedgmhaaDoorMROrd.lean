/- The reference's order: which blocks stay. The reference's 'order': a node that was made, and all below it, as a list. -/
import Derived.Test.YtlenenfgedgmhaaDoorMRd3
namespace Go.Proofs.YtlenenfgedgmhaaDoor
set_option linter.unusedSimpArgs false
set_option linter.unusedVariables false
open Go.RowKit

/-- a block that a list of nodes does not own -/
def Free (v : Value) (es : List (EN × Value)) (b : Nat) : Prop := v.ownBlock ≠ some b ∧ ∀ p ∈ es, p.2.ownBlock ≠ some b
/-- what a list of nodes does not own stays, and stays its own -/
def Keeps (X : World) (v : Value) (es : List (EN × Value)) (w' : World) (v' : Value) (es' : List (EN × Value)) : Prop :=
  X.heap.size ≤ w'.heap.size ∧ ∀ b, b < X.heap.size → Free v es b → w'.heap[b]? = X.heap[b]? ∧ Free v' es' b
section
variable {X Y Z : World} {B : Nat} {v u t : Value} {es ds cs : List (EN × Value)}
theorem Keeps.refl (X : World) (v : Value) (es : List (EN × Value)) : Keeps X v es X v es := ⟨Nat.le_refl _, fun _ _ h => ⟨rfl, h⟩⟩
theorem Keeps.trans (h : Keeps X v es Y u ds) (k : Keeps Y u ds Z t cs) : Keeps X v es Z t cs :=
  ⟨Nat.le_trans h.1 k.1, fun b hb hf => by
    obtain ⟨h1, h2⟩ := h.2 b hb hf
    obtain ⟨k1, k2⟩ := k.2 b (Nat.lt_of_lt_of_le hb h.1) h2
    exact ⟨k1.trans h1, k2⟩⟩
theorem Keeps.alloc (X : World) (v : Value) (es : List (EN × Value)) (o : Obj) : Keeps X v es (X.alloc o) v es :=
  ⟨by rw [World.size_alloc]; omega, fun b hb hf => ⟨Below.heap_alloc X o b hb, hf⟩⟩
theorem Free.new (h : EL X B v es) {b : Nat} (hb : X.heap.size ≤ b) : Free v es b := by
  refine ⟨fun e => ?_, fun p hp e => ?_⟩
  · have := (h.main.block b e).2; omega
  · obtain ⟨i, hi⟩ := List.mem_iff_getElem?.1 hp
    have := ((h.kids i p hi).block b e).2; omega
/-- a node more -/
theorem Keeps.push (o : Obj) {e : EN} {w' : World} (hg : (X.alloc o).grownBy w' v.ownBlock) (hat : u.ownBlock = v.ownBlock ∨ u.ownBlock = some (X.alloc o).heap.size) : Keeps X v es w' u (es ++ [(e, .slice none 0 0)]) := by
  have hs : X.heap.size < (X.alloc o).heap.size := by rw [World.size_alloc]; omega
  refine ⟨by have := hg.size; omega, fun b hb hf => ⟨(hg.block b (by omega) (fun e => hf.1 e.symm)).trans (Below.heap_alloc X o b hb), fun e => ?_, fun p hp => ?_⟩⟩
  · rcases hat with h | h
    · exact hf.1 (h ▸ e)
    · rw [h] at e; injection e with e; omega
  · rcases List.mem_append.1 hp with hp | hp
    · exact hf.2 p hp
    · simp at hp; subst hp; exact fun e => by cases e
/-- a part more in a node's row -/
theorem Keeps.kid {g n c p : Nat} {e e' : EN} {kv kv' : Value} {X2 : World} (hp : es[p]? = some (e, kv)) (o : Obj) (hg : (X.alloc o).grownBy X2 kv.ownBlock) (hat : kv'.ownBlock = kv.ownBlock ∨ kv'.ownBlock = some (X.heap.size + 1)) :
    Keeps X (.slice (some ⟨g, 0, none⟩) n c) es (X2.setCell ⟨g, p * 4 + 3, none⟩ kv') (.slice (some ⟨g, 0, none⟩) n c) (es.set p (e', kv')) := by
  have hs : X.heap.size < (X.alloc o).heap.size := by rw [World.size_alloc]; omega
  refine ⟨by rw [World.size_setCell]; have := hg.size; omega, fun b hb hf => ⟨?_, hf.1, fun x hx => ?_⟩⟩
  · have hbg : b ≠ g := fun e1 => hf.1 (by rw [e1]; rfl)
    rw [Below.heap_setCell X2 ⟨g, p * 4 + 3, none⟩ kv' b hbg]
    exact (hg.block b (by omega) (fun e1 => hf.2 _ (List.mem_iff_getElem?.2 ⟨p, hp⟩) e1.symm)).trans (Below.heap_alloc X o b hb)
  · rcases List.mem_or_eq_of_mem_set hx with h | h
    · exact hf.2 x h
    · subst h
      rcases hat with h | h
      · exact fun e1 => hf.2 _ (List.mem_iff_getElem?.2 ⟨p, hp⟩) (h ▸ e1)
      · rw [h]; intro e1; injection e1 with e1; omega
/-- a block that stays, behind the growth of a node's row -/
theorem kid_stays {p : Nat} {e : EN} {kv : Value} {X2 : World} {b : Nat} (hp : es[p]? = some (e, kv)) (o : Obj) (hg : (X.alloc o).grownBy X2 kv.ownBlock) (hb : b < X.heap.size) (hf : Free v es b) : X2.heap[b]? = X.heap[b]? := by
  have hs : X.heap.size < (X.alloc o).heap.size := by rw [World.size_alloc]; omega
  exact (hg.block b (by omega) (fun e1 => hf.2 _ (List.mem_iff_getElem?.2 ⟨p, hp⟩) e1.symm)).trans (Below.heap_alloc X o b hb)
theorem Reps.len {MS : List EN} : ∀ {ts : List Tr} {gs : List Nat}, Reps MS ts gs → gs.length = ts.length
  | [], gs, h => by simp only [Reps] at h; subst h; rfl
  | t :: ts, gs, h => by
    simp only [Reps] at h
    obtain ⟨g, gs', rfl, _, h⟩ := h
    simp only [List.length_cons, h.len]
theorem Reps.get {MS : List EN} : ∀ {ts : List Tr} {gs : List Nat} {j : Nat} {t : Tr} {g : Nat}, Reps MS ts gs → ts[j]? = some t → gs[j]? = some g → Rep MS t g
  | [], _, j, t, g, _, h1, _ => by simp at h1
  | u :: ts, gs, 0, t, g, h, h1, h2 => by
    simp only [Reps] at h
    obtain ⟨g', gs', rfl, h3, _⟩ := h
    simp at h1 h2
    subst h1 h2
    exact h3
  | u :: ts, gs, j + 1, t, g, h, h1, h2 => by
    simp only [Reps] at h
    obtain ⟨g', gs', rfl, _, h4⟩ := h
    simp only [List.getElem?_cons_succ] at h1 h2
    exact Reps.get h4 h1 h2
/-- what it comes to -/
def OrdIs (B : Nat) (X : World) (v : Value) (t : Tr) (es : List (EN × Value)) (e : Ending) (w' : World) : Prop :=
  ∃ (v' : Value) (es' : List (EN × Value)), e = .returned (.tuple #[v', .int .i64 (t.deep : Int)]) ∧ EL w' B v' (es ++ es') ∧ es'.map (·.1) = t.flat es.length ∧ Below B X w' ∧ Keeps X v es w' v' (es ++ es')
end
end Go.Proofs.YtlenenfgedgmhaaDoor
namespace Go.Proofs.YtlenenfgedgmhaaDoor
set_option linter.unusedSimpArgs false
set_option linter.unusedVariables false
open Go.RowKit

set_option maxRecDepth 100000 in
set_option maxHeartbeats 8000000 in
theorem r_order (W0 : World) (ma : Option Addr) (mn mc : Nat) (MS : List EN) (hM : SlR W0 W0.heap.size 4 (ENode.Is W0 W0.heap.size) (.slice ma mn mc) MS) : ∀ (N : Nat) (t : Tr) (g : Nat) (X : World) (v : Value) (es : List (EN × Value)), t.size ≤ N → Rep MS t g → Below W0.heap.size W0 X → EL X W0.heap.size v es → es.length + t.size ≤ 5000 →
    Calls Tryd.prog 29 #[.slice ma mn mc, .int .i64 (g : Int), v] X (OrdIs W0.heap.size X v t es) := by
  intro N
  induction N with
  | zero => intro t g X v es h; have := size_pos t; omega
  | succ N ih =>
  intro t g X v es hN ht hX hE hsz
  obtain ⟨kd, s, nm, ks⟩ := t
  simp only [Rep] at ht
  obtain ⟨gs, hg, hreps⟩ := ht
  have hszk : sizeL ks ≤ N := by simp only [Tr.size] at hN; omega
  simp only [Tr.size] at hsz
  obtain ⟨a, c, rfl⟩ := hE.main.form
  obtain ⟨p, hp⟩ : ∃ p, es.length = p := ⟨_, rfl⟩
  have hgl := (List.getElem?_eq_some_iff.1 hg).1
  have hmn := hM.len
  have hmc := hM.caps
  obtain ⟨mb, mo, x, rfl, hmb, _, ⟨kv, rfl, hrow⟩, hcell⟩ := (hM.below hX).at_ hg
  have c0 : X.cell? ⟨mb, mo + g * 4, none⟩ = some (.int .i64 (kd : Int)) := hcell 0 _ rfl
  have c1 : X.cell? ⟨mb, mo + g * 4 + 1, none⟩ = some (.string (txt s)) := hcell 1 _ rfl
  have c2 : X.cell? ⟨mb, mo + g * 4 + 2, none⟩ = some (.int .i64 nm) := hcell 2 _ rfl
  have c3 : X.cell? ⟨mb, mo + g * 4 + 3, none⟩ = some kv := hcell 3 _ rfl
  obtain ⟨ka, kc, rfl, _⟩ := hrow.form
  simp only at hrow c3
  obtain ⟨m, hm⟩ : ∃ m, gs.length = m := ⟨_, rfl⟩
  have hmk : ks.length = m := by rw [← hm]; exact hreps.len.symm
  have g0 : (0 : Int) ≤ (g : Int) := Int.natCast_nonneg _
  have gl : (g : Int) < (mn : Int) := by rw [hmn]; omega
  have gl2 : g < mn := by rw [hmn]; exact hgl
  have HIH := Lib.hid ih
  have HX := Lib.hid hX
  have HEM : Hid (EL X W0.heap.size (.slice a p c) es) := Lib.hid (by rw [← hp]; exact hE)
  have HROW := Lib.hid hrow
  have HTR := Lib.hid hreps
  have Hp := Lib.hid hp
  have Hm := Lib.hid hm
  have Hmk := Lib.hid hmk
  rw [hp] at hsz ⊢
  rw [hm] at HROW c3
  have m63 : m ≤ 9223372036854775807 := by have := HROW.out.caps; unfold maxLen at this; omega
  have p5 : (p : Int) ≤ 5000 := by omega
  obtain ⟨jE, hi, hz, hs2, hby⟩ := info_parts info_enode
  have IE := Lib.hid (And.intro hi (And.intro hz (And.intro hs2 hby)))
  clear hi hz hs2 hby
  obtain ⟨jI, hi, hz, hs2, hby⟩ := info_parts info_int
  have II := Lib.hid (And.intro hi (And.intro hz (And.intro hs2 hby)))
  have HML := Lib.hid (And.intro hmn (And.intro hmc hgl))
  clear hi hz hs2 hby ih hX hE hrow hreps hp hm hmk hN hM hcell hg hmn hmc hgl
  have B1 : Hid (Below W0.heap.size X (X.alloc (.cells #[.int .i64 (kd : Int), .string (txt s), .int .i64 nm, .slice ka m kc] 46))) := Lib.hid ((Below.refl _ X).alloc HX.out.size _)
  have E1 : Hid (EL (X.alloc (.cells #[.int .i64 (kd : Int), .string (txt s), .int .i64 nm, .slice ka m kc] 46)) W0.heap.size (.slice a p c) es) := Lib.hid (HEM.out.alloc _)
  have K1 : Hid (Keeps X (.slice a p c) es (X.alloc (.cells #[.int .i64 (kd : Int), .string (txt s), .int .i64 nm, .slice ka m kc] 46)) (.slice a p c) es) := Lib.hid (Keeps.alloc _ _ _ _)
  have FR : Hid (Free (.slice a p c) es X.heap.size) := Lib.hid (Free.new HEM.out (Nat.le_refl _))
  have BK : Hid (Blk (X.alloc (.cells #[.int .i64 (kd : Int), .string (txt s), .int .i64 nm, .slice ka m kc] 46)) X.heap.size 46 #[.int .i64 (kd : Int), .string (txt s), .int .i64 nm, .slice ka m kc]) := Lib.hid (Blk.new X _ _)
  go_enter Tryd.func29, Tryd.ntmps29
  go_wp2_with (first
    | (at_builtin; refine wpList_append_list2 rfl (.tmp 19) (.tmp 27) _ rfl W0.heap.size ((X.alloc (.cells #[.int .i64 (kd : Int), .string (txt s), .int .i64 nm, .slice ka m kc] 46)).heap.size + 1) 46 jE _ 4 56 Tryd.underlying22 IE.out.1 IE.out.2.1 IE.out.2.2.1 IE.out.2.2.2 rfl (by omega) (R := IsEN) (l := es) (m := [(⟨kd, s, nm, []⟩, .slice none 0 0)]) (.slice a p c) ?_ (by exact E1.out.main.alloc (.cells #[.int .i64 (kd : Int), .string (txt s), .int .i64 nm, .slice none 0 0] 46)) (some ⟨(X.alloc (.cells #[.int .i64 (kd : Int), .string (txt s), .int .i64 nm, .slice ka m kc] 46)).heap.size, 0, none⟩) 1 1 ?_ (by exact SlR.new1 (x := [.int .i64 (kd : Int), .string (txt s), .int .i64 nm, .slice none 0 0]) rfl rfl ⟨rfl, _, _, _, rfl⟩) (p + 1) (by rw [Hp.out]) IsEN.one (by rw [Hp.out]; unfold maxLen; omega) (by rw [Hp.out]; omega) (by have := HX.out.size; have := B1.out.size; rw [World.size_alloc]; omega) ?_; rfl; (first | rfl | (simp only [World.size_alloc]; rfl)); intro oa oc w2 hown hgr hat; have O2 := Lib.hid (And.intro hown (And.intro hgr hat)); have B2 : Below W0.heap.size X w2 := (B1.out.alloc (Nat.le_trans HX.out.size B1.out.size) _).grown hgr (by have := HX.out.size; have := B1.out.size; rw [World.size_alloc]; omega) (fun g' hg' => (E1.out.main.block g' hg').1); have HB2 := Lib.hid B2; have hk2 := Keeps.push (es := es) (e := ⟨kd, s, nm, []⟩) (.cells #[.int .i64 (kd : Int), .string (txt s), .int .i64 nm, .slice none 0 0] 46) hgr hat; have K2 := Lib.hid hk2; have n3 : w2.cell? ⟨X.heap.size, 3, none⟩ = some (.slice ka m kc) := (World.cell?_of_block (hk2.2 X.heap.size (by rw [World.size_alloc]; omega) FR.out).1).trans (BK.out.cell rfl); clear hown hgr hat B2 hk2))
  have E2 : Hid (EL w2 W0.heap.size (.slice oa (p + 1) oc) (es ++ [(⟨kd, s, nm, []⟩, .slice none 0 0)])) := Lib.hid ((E1.out.alloc (.cells #[.int .i64 (kd : Int), .string (txt s), .int .i64 nm, .slice none 0 0] 46)).push rfl (by have := O2.out.1; exact this) (by have := O2.out.2.1; exact this))
  obtain ⟨X1, hX1⟩ : ∃ z, (X.alloc (.cells #[.int .i64 (kd : Int), .string (txt s), .int .i64 nm, .slice ka m kc] 46)) = z := ⟨_, rfl⟩
  rw [hX1] at K2 BK B1 E1 K1
  have X1s : Hid (X1.heap.size = X.heap.size + 1) := Lib.hid (by rw [← hX1, World.size_alloc])
  obtain ⟨nb, hnb⟩ : ∃ z, X.heap.size = z := ⟨_, rfl⟩
  have HW0 : Hid (W0.heap.size ≤ nb) := Lib.hid (by rw [← hnb]; exact HX.out.size)
  have Hnb := Lib.hid hnb
  rw [hnb] at n3 FR BK X1s ⊢
  clear c0 c1 c2 c3 hX1 hnb n3
  clear O2
  go_loopw [2, 10, 11, 12] (fun v d i _ wr => ∃ (j : Nat) (a' : Option Addr) (n' c' : Nat) (kv : Value) (es2 : List (EN × Value)), j ≤ m ∧ i = .int .i64 (j : Int) ∧ v = .slice a' n' c' ∧ d = .int .i64 (deepL (ks.take j) : Int) ∧ Hid (n' = p + 1 + sizeL (ks.take j)) ∧ Hid (EL wr W0.heap.size (.slice a' n' c') (es ++ (⟨kd, s, nm, placesL (ks.take j) (p + 1)⟩, kv) :: es2)) ∧ Hid (es2.map (·.1) = flatL (ks.take j) (p + 1)) ∧ Hid (Below W0.heap.size X wr) ∧ Hid (Keeps X1 (.slice a p c) es wr (.slice a' n' c') (es ++ (⟨kd, s, nm, placesL (ks.take j) (p + 1)⟩, kv) :: es2))) (fun _ _ i _ _ => m - (intOf i).toNat)
  case atStart => exact ⟨0, oa, p + 1, oc, .slice none 0 0, [], Nat.zero_le _, rfl, rfl, rfl, Lib.hid (by simp [sizeL]), E2, Lib.hid (by simp [flatL]), HB2, K2⟩
  case round =>
    obtain ⟨j, a', n', c', kv, es2, hj, rfl, rfl, rfl, HN, HEL, HES, HB, HKP⟩ := hrel
    clear E2 HB2 K2
    have hnbb := (HKP.out.2 nb (by rw [X1s.out]; omega) FR.out)
    have nlt : nb < wr.heap.size := by have := HKP.out.1; have := X1s.out; omega
    have n3 : wr.cell? ⟨nb, 3, none⟩ = some (.slice ka m kc) := (World.cell?_of_block hnbb.1).trans (BK.out.cell rfl)
    have HNB := Lib.hid hnbb
    have NLT := Lib.hid nlt
    clear hnbb nlt
    by_cases hlt : j < m
    · obtain ⟨gk, hgk⟩ := get_some Hm.out hlt
      obtain ⟨tk, htk⟩ := get_some Hmk.out hlt
      have hLp := get_mid es es2 (⟨kd, s, nm, placesL (ks.take j) (p + 1)⟩, kv) p Hp.out
      obtain ⟨gm, rfl, hgm, hgml, hfz, hat⟩ := HEL.out.main.at00 (by simp; omega) (by omega)
      obtain ⟨x0, hx0, ⟨rfl, ak, nk, ck, hkv⟩, hc0⟩ := hat p _ hLp
      simp only at hkv
      subst hkv
      have u3 : wr.cell? ⟨gm, p * 4 + 3, none⟩ = some (.slice ak nk ck) := hc0 3 _ rfl
      have hnk : nk = (placesL (ks.take j) (p + 1)).length := by
        obtain ⟨a9, c9, h9⟩ := (HEL.out.kids p _ hLp).form
        injection h9
      have hszj := sizeL_take_le ks j
      have hpl : (placesL (ks.take j) (p + 1)).length ≤ 5000 := by rw [placesL_len]; have := len_le_size (ks.take j); omega
      have hn5 : n' ≤ 5000 := by have := HN.out; omega
      have hpn : (p : Int) < (n' : Int) := by have := HN.out; omega
      have hpn2 : p < n' := by have := HN.out; omega
      have p0 : (0 : Int) ≤ (p : Int) := Int.natCast_nonneg _
      have j0 : (0 : Int) ≤ (j : Int) := Int.natCast_nonneg _
      have jm : (j : Int) < (m : Int) := by omega
      have djm : decide ((j : Int) < (m : Int)) = true := by simp; omega
      have djm2 : decide (j < m) = true := by simp; omega
      have hng : ¬ nb = gm := fun e => HNB.out.2.1 (by rw [e]; rfl)
      have hng2 : ¬ gm = nb := fun e => hng e.symm
      obtain ⟨b1, off1, x1, rfl, hb1, hx1, rfl, hc1⟩ := HROW.out.at_ hgk
      have k0 := hc1 0 _ rfl
      simp only [Nat.add_zero, Nat.mul_one] at k0
      have K0 : Hid (W0.cell? ⟨b1, off1 + j, none⟩ = some (.int .i64 (gk : Int))) := Lib.hid k0
      have hbg : ¬ b1 = gm := by omega
      have hbg2 : ¬ gm = b1 := by omega
      have HB1 := Lib.hid hb1
      have HLp := Lib.hid hLp
      have Hnk := Lib.hid hnk
      have Hpl := Lib.hid hpl
      have Htk := Lib.hid htk
      have Hgk := Lib.hid hgk
      have Hfz := Lib.hid hfz
      have Hgml := Lib.hid hgml
      have Hgm := Lib.hid hgm
      clear hx0 hc0 hat hx1 hc1 hLp hnk hpl htk hgk hfz k0 hgm hb1
      go_wp2_with (first
        | (at_builtin; refine wpList_append_list2 rfl (.tmp 42) (.tmp 45) _ rfl W0.heap.size (wr.heap.size + 1) 3 jI _ 1 8 Tryd.underlying44 II.out.1 II.out.2.1 II.out.2.2.1 II.out.2.2.2 rfl (by omega) (R := IsNat) (l := placesL (ks.take j) (p + 1)) (m := [n']) (.slice ak nk ck) ?_ (by exact (HEL.out.kids p _ HLp.out).alloc (.cells #[.int .i64 (n' : Int)] 3)) (some ⟨wr.heap.size, 0, none⟩) 1 1 ?_ (by exact SlR.new1 (x := [.int .i64 (n' : Int)]) rfl rfl rfl) (nk + 1) (by rw [Hnk.out]) IsNat.one (by have := Hpl.out; unfold maxLen; omega) (by have := Hpl.out; omega) (by have := HX.out.size; have := HB.out.size; rw [World.size_alloc]; omega) ?_; rfl; rfl; intro ak2 ck2 w3 hown hgr hat3; have O3 := Lib.hid (And.intro hown (And.intro hgr hat3)); have m3 := ((HEL.out.alloc (.cells #[.int .i64 (n' : Int)] 3)).main.kept1 ((HEL.out.alloc (.cells #[.int .i64 (n' : Int)] 3)).kids p _ HLp.out) (by decide) hgr); obtain ⟨gm2, e2, _, _, hfz3, hat4⟩ := m3.at00 (by simp; omega) (by omega); injection e2 with e2; injection e2 with e2; subst e2; obtain ⟨x5, hx5, ⟨rfl, _⟩, hc5⟩ := hat4 p _ HLp.out; have u5 : w3.cell? ⟨gm, p * 4 + 3, none⟩ = some (.slice ak nk ck) := hc5 3 _ rfl; have z5 := hfz3 (p * 4 + 3)
           have B3' := (HB.out.alloc (Nat.le_trans HX.out.size HB.out.size) (.cells #[.int .i64 (n' : Int)] 3)).grown hgr (by have := HX.out.size; have := HB.out.size; rw [World.size_alloc]; omega) (fun g' hg' => ((HEL.out.kids p _ HLp.out).block g' hg').1)
           have k3 : w3.cell? ⟨b1, off1 + j, none⟩ = some (.int .i64 (gk : Int)) := (World.cell?_of_block ((HX.out.trans B3').block b1 HB1.out)).trans K0.out
           have n33 : w3.cell? ⟨nb, 3, none⟩ = some (.slice (some ⟨b1, off1, none⟩) m kc) := (World.cell?_of_block (kid_stays HLp.out (.cells #[.int .i64 (n' : Int)] 3) hgr NLT.out HNB.out.2)).trans n3
           clear hown hgr hat3 hfz3 hat4 hx5 hc5 B3' m3))
      have E3 := HEL.out.kid HLp.out ⟨_, _, _, rfl⟩ (.cells #[.int .i64 (n' : Int)] 3) O3.out.1 O3.out.2.1 (by have := O3.out.2.2; rw [World.size_alloc] at this; exact this)
      rw [set_mid es es2 _ _ p Hp.out] at E3
      have KK := Keeps.kid (n := n') (c := c') (g := gm) (e' := ⟨kd, s, nm, placesL (ks.take j) (p + 1) ++ [n']⟩) HLp.out (.cells #[.int .i64 (n' : Int)] 3) O3.out.2.1 (by have := O3.out.2.2; rw [World.size_alloc] at this; exact this)
      rw [set_mid es es2 _ _ p Hp.out] at KK
      have HK3 := Lib.hid (HKP.out.trans KK)
      have B3 : Below W0.heap.size X (w3.setCell ⟨gm, p * 4 + 3, none⟩ (.slice ak2 (nk + 1) ck2)) := (((HB.out.alloc (Nat.le_trans HX.out.size HB.out.size) (.cells #[.int .i64 (n' : Int)] 3)).grown O3.out.2.1 (by have := HX.out.size; have := HB.out.size; rw [World.size_alloc]; omega) (fun g' hg' => ((HEL.out.kids p _ HLp.out).block g' hg').1))).setCell (p := ⟨gm, p * 4 + 3, none⟩) ((HEL.out.main.block gm rfl).1) _
      have hes2 : es2.length = sizeL (ks.take j) := by have := congrArg List.length HES.out; rw [List.length_map, trFlatL_len] at this; exact this
      have htk1 := take_snoc1 Htk.out
      have hszt := sizeL_take_le ks (j + 1)
      rw [htk1, sizeL_app] at hszt
      simp only [sizeL] at hszt
      have HE3 := Lib.hid E3
      have HB3 := Lib.hid B3
      have HT1 := Lib.hid htk1
      have Hes2 := Lib.hid hes2
      have CC := HIH.out tk gk _ (.slice (some ⟨gm, 0, none⟩) n' c') _ (Nat.le_trans (size_mem (List.mem_iff_getElem?.2 ⟨j, Htk.out⟩)) hszk) (Reps.get HTR.out Htk.out Hgk.out) (HX.out.trans B3) E3 (by rw [List.length_append, Hp.out, List.length_cons, hes2]; omega)
      have HCC := Lib.hid CC
      clear E3 B3 htk1 hes2 CC KK
      refine HCC.out.mono ?_
      rintro e w4 ⟨v4, es4, rfl, hE4, hm4, hB4, hK4⟩
      obtain ⟨a4, c4, rfl⟩ := hE4.main.form
      have HE4 := Lib.hid hE4
      have HM4 := Lib.hid hm4
      have HB4 := Lib.hid (HB3.out.trans hB4)
      have HK4 := Lib.hid (HK3.out.trans hK4)
      obtain ⟨n4, hn4⟩ : ∃ z, (es ++ (⟨kd, s, nm, placesL (ks.take j) (p + 1) ++ [n']⟩, Value.slice ak2 (nk + 1) ck2) :: es2 ++ es4).length = z := ⟨_, rfl⟩
      rw [hn4]
      have HN4 := Lib.hid hn4
      clear hE4 hm4 hB4 hK4 HCC hn4 u3 u5 z5 n3 k3 n33
      go_wp2_with fail
      go_roundw
      case rel =>
        have hn1 : n' = p + 1 + sizeL (ks.take j) := HN.out
        have hpl1 : placesL (ks.take (j + 1)) (p + 1) = placesL (ks.take j) (p + 1) ++ [n'] := by rw [HT1.out, placesL_app, hn1]; rfl
        have hlen4 : es4.length = tk.size := by have := congrArg List.length HM4.out; rw [List.length_map, trFlat_len] at this; exact this
        refine ⟨j + 1, a4, n4, c4, .slice ak2 (nk + 1) ck2, es2 ++ es4, by omega, by go_num, rfl, ?_, Lib.hid ?_, Lib.hid ?_, Lib.hid ?_, HB4, Lib.hid ?_⟩
        · rw [HT1.out, deepL_app]
          simp only [deepL]
          congr 1
          split <;> omega
        · rw [← HN4.out, HT1.out, sizeL_app]
          simp only [List.length_append, List.length_cons, sizeL, Hp.out, Hes2.out, hlen4]
          omega
        · rw [hpl1]
          have := HE4.out
          rw [HN4.out] at this
          rw [List.append_assoc, List.cons_append] at this
          exact this
        · rw [List.map_append, HES.out, HM4.out, HT1.out, flatL_app]
          simp only [List.length_append, List.length_cons, Hp.out, Hes2.out, flatL, List.append_nil]
          congr 2
          omega
        · rw [hpl1]
          have := HK4.out
          rw [HN4.out] at this
          rw [List.append_assoc, List.cons_append] at this
          exact this
      case measure => simp [intOf]; omega
    · have hjm : j = m := by omega
      subst hjm
      clear hlt
      have djm : decide ((j : Int) < (j : Int)) = false := by simp
      have djm2 : decide (j < j) = false := by simp
      have hdd : deepL (ks.take j) ≤ 5000 := by have := deepL_le (ks.take j); have := sizeL_take_le ks j; omega
      have hd63 : (deepL (ks.take j) : Int) ≤ 5000 := by omega
      have hd0 : (0 : Int) ≤ (deepL (ks.take j) : Int) := Int.natCast_nonneg _
      have htk : ks.take j = ks := List.take_of_length_le (by rw [Hmk.out]; exact Nat.le_refl _)
      have HTK := Lib.hid htk
      clear htk hdd
      go_wp2_with fail
      go_ret2
      refine ⟨.slice a' n' c', (⟨kd, s, nm, placesL (ks.take j) (p + 1)⟩, kv) :: es2, ?_, HEL.out, ?_, HB.out, K1.out.trans HKP.out⟩
      · show Ending.returned (.tuple #[.slice a' n' c', .int .i64 ((deepL (ks.take j) : Int) + 1)]) = _
        rw [HTK.out]
        rfl
      · rw [List.map_cons, HES.out, HTK.out, Hp.out]
        rfl
end Go.Proofs.YtlenenfgedgmhaaDoor
