/- The functions of a ring of numbers, walked. -/
import Derived.Test.YtjdobemljghkbaaTr
namespace Go.Proofs.Ytjdobemljghkbaa
open Go.RowKit
attribute [local go_sem ↓] Go.wp_at_zero Go.wp_at_succ

theorem info_i : (Try.prog.info? 3).map (fun i => (i.zero, i.size, i.bytes)) = some (some (.int .i64 0), 1, 8) := by kernel_rfl
theorem max8_i (n m : Nat) (h : max 8 (2 * n) = m) (ts : Array TypeId) (t : TypeId) (w : World) : (Builtin.max_ ts t #[.int .i64 8, .int .i64 (2 * (n : Int))]).run Try.prog w = .ok (.int .i64 (m : Int)) w := by
  subst h
  simp [Builtin.max_, Builtin.max2]
  split <;> omega
/-- An element's cell. -/
theorem el_i {x : List Value} {F : Nat → Value} {p : Nat} (h : ∀ j, j < 1 → x[j]? = some (F (p * 1 + j))) : F p = x.getD 0 undef := by
  have h0 := h 0 (by omega)
  rw [Nat.add_zero, Nat.mul_one] at h0
  simp [List.getD_eq_getElem?_getD, h0]

/-- What growing leaves. -/
def Growni (w : World) (b : Nat) (T : TypeId) (rest : List Value) (M : Nat) (l : List (List Value)) (w' : World) : Prop :=
  ∃ g, w.heap.size ≤ g ∧ RingL w' b T 3 1 rest (.slice (some ⟨g, 0, none⟩) M M) M 0 l ∧ Only (· = b) w w'
set_option maxRecDepth 100000 in
set_option maxHeartbeats 1000000 in
theorem grow_i (w : World) (b : Nat) (T : TypeId) (rest : List Value) (v : Value) (L f M : Nat) (l : List (List Value)) (h : RingL w b T 3 1 rest v L f l) (hL : l.length = L) (hb : L ≤ 2000000) (hM : max 8 (2 * L) = M) (hel : ∀ x ∈ l, ∃ y : Int, x = [.int .i64 y]) :
    Calls Try.prog 42 #[.pointer (some ⟨b, 0, none⟩)] w fun e w' => e = .returned (.tuple #[]) ∧ Growni w b T rest M l w' := by
  have hmax := max8_i L M hM
  have hM8 : 8 ≤ M := by omega
  have hM2 : L < M := by omega
  have hMb : M ≤ 4000008 := by omega
  have hmk := fun w => run_make_row' (P := Try.prog) 35 3 (.int .i64 0) 8 Try.underlying35 info_i rfl .i64 .i64 M (by omega) (by omega) w
  have hc0 := h.cell0
  have hc1 := h.cell1
  have hc2 := h.cell2
  obtain ⟨A, rfl⟩ := h.slice_
  have hLI : (L : Int) ≤ 2000000 := by omega
  have HL := Lib.hid hL
  have HM := Lib.hid hM
  rw [hL] at hc2
  clear hM hL
  go_enter Try.func42, Try.ntmps42
  go_upto_region 1 with fail
  have hrow0 := rowIs_of_heap (n := M * 1) (heap_alloc_new w (.cells (madeCells #[.int .i64 0] M) 3)) (by rw [size_madeCells, Nat.mul_one])
  have hO0 : Only (· = b) w (w.alloc (.cells (madeCells #[.int .i64 0] M) 3)) := (Only.refl _ _).alloc _
  have hR0 : RingL (w.alloc (.cells (madeCells #[.int .i64 0] M) 3)) b T 3 1 rest (.slice A L L) L f l := h.only (Only.of_below (fun _ => False) ((Below.refl _ _).alloc (Nat.le_refl _) _)) id (fun _ _ h => h)
  have hrow : ∃ F, (w.alloc (.cells (madeCells #[.int .i64 0] M) 3)).rowIs w.heap.size 3 (M * 1) F := ⟨_, hrow0⟩
  have hgl := hR0.lt
  have hbw := h.lt
  have hvl := h.row.lt
  clear hrow0 hc0 hc1 hc2 h hmax hmk
  generalize w.alloc (.cells (madeCells #[.int .i64 0] M) 3) = w1 at *
  generalize hg : w.heap.size = g at *
  have HG := Lib.hid hg
  clear hg
  have hc2 := hR0.cell2
  rw [HL.out] at hc2
  go_wp2
  clear hc2
  go_loopw [16] (fun i wr => ∃ (k : Nat) (F : Nat → Value), k ≤ L ∧ i = .int .i64 (k : Int) ∧ wr.rowIs g 3 (M * 1) F ∧ (∀ i x, i < k → l[i]? = some x → ∀ j, j < 1 → x[j]? = some (F (i * 1 + j))) ∧ RingL wr b T 3 1 rest (.slice A L L) L f l ∧ Only (· = b) w wr) (fun i _ => L - (intOf i).toNat)
  case atStart =>
    obtain ⟨F, hF⟩ := hrow
    exact ⟨0, F, Nat.zero_le _, rfl, hF, fun i x hi => absurd hi (by omega), hR0, hO0⟩
  case round =>
    clear hrow hR0 hO0 hgl
    obtain ⟨k, F, hk, rfl, hF, hx, hR, hO⟩ := hrel
    by_cases hlt : k < L
    · obtain ⟨x, hlx⟩ : ∃ x, l[k]? = some x := ⟨l[k]'(by have := HL.out; omega), List.getElem?_eq_getElem _⟩
      obtain ⟨y, rfl⟩ := hel x (List.mem_of_getElem? hlx)
      rcases hR.row with ⟨_, h0, _⟩ | ⟨g0, F0, hne0, hv, hf, hr0, hx0⟩
      · omega
      · injection hv with hA
        subst hA
        have hx1 := el_i (hx0 k _ hlx)
        have hp : (f + k) % L < L := Nat.mod_lt _ (by omega)
        have hq0 := hr0.cell (i := (f + k) % L) (by omega)
        rw [hx1] at hq0
        simp only [List.getD_cons_zero] at hq0
        have hn0 := hF.cell (i := k) (by omega)
        have hz0 := hF.frozen k
        have hc0 := hR.cell0
        have hc1 := hR.cell1
        have hsum : IntKind.i64.wrap ((f : Int) + (k : Int)) = ((f + k : Nat) : Int) := by rw [IntWalk.i64_in _ (by omega)]; omega
        have hmod : ((f + k : Nat) : Int).tmod (L : Int) = (((f + k) % L : Nat) : Int) := by rw [Int.tmod_eq_emod_of_nonneg (by omega)]; rfl
        have hLz : ¬ L = 0 := by omega
        have hpI : (((f + k) % L : Nat) : Int) < (L : Int) := by omega
        have hkM : (k : Int) < (M : Int) := by omega
        have hkI : (k : Int) < (L : Int) := by omega
        have HLX := Lib.hid hlx
        clear hx1 hx0 hr0 hp hlx
        generalize (f + k) % L = p at *
        generalize f + k = fk at *
        go_upto_region 5 with fail
        go_still_tail 21, (by kernel_rfl)
        have hFd := hF.drew
        have hRd : RingL wr.drew b T 3 1 rest (.slice (some ⟨g0, 0, none⟩) L L) L f l := hR.only ((Only.refl (fun _ => False) wr).drew) id (fun _ _ h => h)
        have hOd : Only (· = b) w wr.drew := hO.drew
        have hnd0 : wr.drew.cell? ⟨g, k, none⟩ = _ := hn0
        have hzd0 : wr.drew.frozen? ⟨g, k, none⟩ = false := hz0
        change wpList _ _ _ _ _ wr.drew
        generalize wr.drew = wd at *
        clear hF hR hO hn0 hz0 hc0 hc1 hq0
        have hF2 := hFd.set k (.int .i64 y)
        have hO2 := Only.setCell (S := fun i => i = g) (p := ⟨g, k, none⟩) (Only.refl _ wd) (.inr rfl) (.int .i64 y)
        have hR2 := hRd.only hO2 (by omega) (fun q hq => by have := (hvl q hq).1; omega)
        have hO3 : Only (· = b) w (wd.setCell ⟨g, k, none⟩ (.int .i64 y)) := hOd.setCell (.inl (by show w.heap.size ≤ g; have := HG.out; omega)) _
        have hx2 : ∀ i x, i < k + 1 → l[i]? = some x → ∀ j, j < 1 → x[j]? = some ((fun j => if j = k then Value.int .i64 y else F j) (i * 1 + j)) := by
          intro i x hi hxi j hj
          obtain rfl : j = 0 := by omega
          by_cases he : i = k
          · subst he
            rw [HLX.out] at hxi
            injection hxi with hxi
            subst hxi
            simp
          · simp only
            rw [if_neg (by omega)]
            exact hx i x (by omega) hxi 0 hj
        have HX2 := Lib.hid hx2
        have hkL : (k : Int) ≤ 2000000 := by omega
        clear hFd hRd hOd hx hx2
        go_wp2
        go_roundw
        case measure => simp [intOf] <;> omega
        case rel => exact ⟨k + 1, _, by omega, by go_num, hF2, HX2.out, hR2, hO3⟩
    · obtain rfl : k = L := by omega
      have hc0 := hR.cell0
      have hc1 := hR.cell1
      have hf0 := hR.thawed 0
      have hf1 := hR.thawed 1
      have hblk := hR.blk
      have hbg : b ≠ g := by omega
      have HB := Lib.hid hblk
      have HBG := Lib.hid hbg
      clear hblk hbg hR
      go_wp2
      go_end0
      have hF2 := (hF.setOther (a := ⟨b, 0, none⟩) (by have := HBG.out; show g ≠ b; omega) (.slice (some ⟨g, 0, none⟩) M M)).setOther (a := ⟨b, 1, none⟩) (by have := HBG.out; show g ≠ b; omega) (.int .i64 0)
      have hk2 := HL.out
      refine ⟨rfl, g, by have := HG.out; omega, ⟨?_, by omega, hMb, .inr ⟨g, F, by have := HBG.out; omega, rfl, by omega, hF2, fun i x hi j hj => ?_⟩⟩, (hO.setCell (.inr rfl) _).setCell (.inr rfl) _⟩
      · rw [heap_setCell_same _ _ _ _ _ _ (heap_setCell_same _ _ _ _ _ _ HB.out)]
        rfl
      · have hil := (List.getElem?_eq_some_iff.1 hi).1
        rw [Nat.zero_add, Nat.mod_eq_of_lt (by omega)]
        exact hx i x (by omega) hi j hj
/-- What stands ahead of the store: there is room. -/
def Midi (w1 : World) (b : Nat) (T : TypeId) (rest : List Value) (g : Option Nat) (l : List (List Value)) (wx : World) : Prop :=
  ∃ v L f, RingL wx b T 3 1 rest v L f l ∧ l.length < L ∧ Only (RS b g) w1 wx ∧ (v.ownBlock = g ∨ ∃ k, v.ownBlock = some k ∧ w1.heap.size ≤ k)
def Pushedi (w : World) (b : Nat) (T : TypeId) (rest : List Value) (g : Option Nat) (l : List (List Value)) (w' : World) : Prop :=
  ∃ g', Ring w' b T 3 1 rest g' l ∧ Only (RS b g) w w' ∧ (g' = g ∨ ∃ k, g' = some k ∧ w.heap.size ≤ k)
set_option maxRecDepth 100000 in
set_option maxHeartbeats 2000000 in
theorem push_i (w1 : World) (b : Nat) (T : TypeId) (rest : List Value) (g : Option Nat) (l : List (List Value)) (x : Int) (h1 : Ring w1 b T 3 1 rest g l) (hl : l.length ≤ 2000000) (hel : ∀ x ∈ l, ∃ y : Int, x = [.int .i64 y]) :
    Calls Try.prog 17 #[.pointer (some ⟨b, 0, none⟩), .int .i64 x] w1 fun e w' => e = .returned (.tuple #[]) ∧ Pushedi w1 b T rest g ([.int .i64 x] :: l) w' := by
  obtain ⟨v, L, f, hv, hR⟩ := h1
  have hc0 := hR.cell0
  have hc2 := hR.cell2
  obtain ⟨A, rfl⟩ := hR.slice_
  have hle := hR.le
  go_enter Try.func17, Try.ntmps17
  go_upto_region 1 with fail
  go_quiet (fail)
  have hR2 : RingL (w1.drewN nq) b T 3 1 rest (.slice A L L) L f l := hR.only ((Only.refl (fun _ => False) w1).drewN nq) id (fun _ _ h => h)
  have hO2 : Only (RS b g) w1 (w1.drewN nq) := (Only.refl _ w1).drewN nq
  clear hc0 hc2
  generalize w1.drewN nq = w2 at *
  have HV := Lib.hid hv
  clear hv
  go_upto_if 15 with fail
  go_cut [] (fun wx => Midi w1 b T rest g l wx)
  case first =>
    by_cases hn : l.length = L
    · have hnI : ((l.length : Int) == (L : Int)) = true := by rw [beq_iff_eq]; omega
      have HN := Lib.hid hn
      clear hn
      go_wp2_with fail
      refine (grow_i w2 b T rest _ L f _ l hR2 HN.out (by have := HN.out; omega) rfl hel).mono ?_
      rintro e w3 ⟨rfl, g3, hg3, hR3, hO3⟩
      go_wp2
      go_meet
      refine ⟨_, _, _, hR3, by have := HN.out; omega, hO2.then hO3 (fun _ _ h => h) (fun _ _ h => .inl h), .inr ⟨g3, rfl, Nat.le_trans hO2.size hg3⟩⟩
    · have hnI : ((l.length : Int) == (L : Int)) = false := by rw [beq_eq_false_iff_ne]; omega
      have HN := Lib.hid hn
      clear hn
      go_wp2
      go_meet
      exact ⟨_, _, _, hR2, by have := HN.out; omega, hO2, .inl HV.out⟩
  case rest =>
    obtain ⟨v, L, f, hR, hlt, hO, hv⟩ := hcut
    clear hR2 hO2 HV hle
    have hrow := hR.row
    have hbd := hR.bd
    rcases hrow with ⟨_, h0, _⟩ | ⟨gb, F, hne, rfl, hf, hr, hx⟩
    · omega
    · have hc0 := hR.cell0
      have hc1 := hR.cell1
      have hf1 := hR.thawed 1
      have hs1 : IntKind.i64.wrap ((f : Int) + (L : Int)) = ((f + L : Nat) : Int) := by rw [IntWalk.i64_in _ (by omega)]; omega
      have hs2 : IntKind.i64.wrap (((f + L : Nat) : Int) - 1) = ((f + L - 1 : Nat) : Int) := by rw [IntWalk.i64_in _ (by omega)]; omega
      have hmod : ((f + L - 1 : Nat) : Int).tmod (L : Int) = (((f + L - 1) % L : Nat) : Int) := by rw [Int.tmod_eq_emod_of_nonneg (by omega)]; rfl
      have hLz : ¬ L = 0 := by omega
      have hp : (f + L - 1) % L < L := Nat.mod_lt _ (by omega)
      have hpI : (((f + L - 1) % L : Nat) : Int) < (L : Int) := by omega
      have hcb := fun i h => circ_back L f i h hf
      have hch := circ_here L f
      have HCB := Lib.hid hcb
      have HCH := Lib.hid hch
      clear hcb hch
      generalize (f + L - 1) % L = p at *
      generalize f + L - 1 = q1 at *
      generalize f + L = q2 at *
      go_upto_region 4 with fail
      go_still_tail 20, (by kernel_rfl)
      have hblk : wc.drew.heap[b]? = some (.cells (RingCells (.slice (some ⟨gb, 0, none⟩) L L) f l.length rest) T (0, 0)) := hR.blk
      have hrd := hr.drew
      have hOd : Only (RS b g) w1 wc.drew := hO.drew
      have hcd1 : wc.drew.cell? ⟨b, 1, none⟩ = _ := hc1
      have hfd1 : wc.drew.frozen? ⟨b, 1, none⟩ = _ := hf1
      change wpList _ _ _ _ _ wc.drew
      generalize wc.drew = wd at *
      clear hR hr hO hc0 hc1 hf1
      have hblk2 : (wd.setCell ⟨b, 1, none⟩ (.int .i64 (p : Int))).heap[b]? = some (.cells (RingCells (.slice (some ⟨gb, 0, none⟩) L L) p l.length rest) T (0, 0)) := (heap_setCell_same _ _ _ _ _ _ hblk).trans rfl
      have hr2 := hrd.setOther (a := ⟨b, 1, none⟩) (by show gb ≠ b; exact hne) (.int .i64 (p : Int))
      have hO2 : Only (RS b g) w1 (wd.setCell ⟨b, 1, none⟩ (.int .i64 (p : Int))) := hOd.setCell (.inr (.inl rfl)) _
      clear hblk hrd hOd
      go_upto_region 4 with fail
      clear hcd1 hfd1
      generalize wd.setCell ⟨b, 1, none⟩ (.int .i64 (p : Int)) = w4 at *
      have hc0 : w4.cell? ⟨b, 0, none⟩ = some (.slice (some ⟨gb, 0, none⟩) L L) := cell_of_blk hblk2 0 _ rfl
      have hc1 : w4.cell? ⟨b, 1, none⟩ = some (.int .i64 (p : Int)) := cell_of_blk hblk2 1 _ rfl
      have hn0 := hr2.cell (i := p) (by omega)
      have hz0 := hr2.frozen p
      clear hs1 hs2 hmod
      go_still_tail 10, (by kernel_rfl)
      have hblk3 : w4.drew.heap[b]? = some (.cells (RingCells (.slice (some ⟨gb, 0, none⟩) L L) p l.length rest) T (0, 0)) := hblk2
      have hr3 := hr2.drew
      have hO3 : Only (RS b g) w1 w4.drew := hO2.drew
      have hnd0 : w4.drew.cell? ⟨gb, p, none⟩ = _ := hn0
      have hzd0 : w4.drew.frozen? ⟨gb, p, none⟩ = false := hz0
      change wpList _ _ _ _ _ w4.drew
      generalize w4.drew = w5 at *
      clear hblk2 hr2 hO2 hn0 hz0 hc0 hc1
      have hr4 := hr3.set p (.int .i64 x)
      have hblk4 : (w5.setCell ⟨gb, p, none⟩ (.int .i64 x)).heap[b]? = _ := (Below.heap_setCell _ _ _ _ (by show b ≠ gb; omega)).trans hblk3
      have hgb : w1.heap.size ≤ gb ∨ RS b g gb := by
        rcases hv with hv | ⟨k, hk, hk2⟩
        · exact .inr (.inr hv.symm)
        · injection hk with hk
          subst hk
          exact .inl hk2
      have hO4 : Only (RS b g) w1 (w5.setCell ⟨gb, p, none⟩ (.int .i64 x)) := hO3.setCell hgb _
      clear hblk3 hr3 hO3
      go_upto_region 5 with fail
      clear hnd0 hzd0
      generalize w5.setCell ⟨gb, p, none⟩ (.int .i64 x) = w6 at *
      have hc2 : w6.cell? ⟨b, 2, none⟩ = some (.int .i64 (l.length : Int)) := cell_of_blk hblk4 2 _ rfl
      have hf2 : w6.frozen? ⟨b, 2, none⟩ = false := frozen_of_row w6 b 2 _ _ hblk4
      have hlI : (l.length : Int) ≤ 2000000 := by omega
      have HBLK := Lib.hid hblk4
      have HXX := Lib.hid hx
      have HHV := Lib.hid hv
      clear hblk4 hx hv
      go_wp2
      go_end0
      refine ⟨rfl, some gb, ⟨.slice (some ⟨gb, 0, none⟩) L L, L, p, rfl, ⟨?_, by rw [List.length_cons]; omega, hbd, .inr ⟨gb, _, hne, rfl, hp, hr4.setOther (a := ⟨b, 2, none⟩) (by show gb ≠ b; exact hne) _, fun i u hi j hj => ?_⟩⟩⟩, ?_, HHV.out⟩
      · rw [heap_setCell_same _ _ _ _ _ _ HBLK.out, List.length_cons]
        have e : (l.length : Int) + 1 = ((l.length + 1 : Nat) : Int) := by omega
        rw [e]
        rfl
      · obtain rfl : j = 0 := by omega
        cases i with
        | zero =>
          injection hi with hi
          subst hi
          rw [HCH.out]
          simp
        | succ i =>
          have hi2 : l[i]? = some u := hi
          have hil := (List.getElem?_eq_some_iff.1 hi2).1
          obtain ⟨hb1, hb2⟩ := HCB.out i (by omega)
          rw [hb1]
          rw [if_neg (by omega)]
          exact HXX.out i u hi2 0 hj
      · exact hO4.setCell (.inr (.inl rfl)) _
def encI (n : Int) : List Value := [.int .i64 n]
theorem encI_el (l : List Int) : ∀ x ∈ l.map encI, ∃ y : Int, x = [.int .i64 y] := by
  intro x hx
  obtain ⟨f, _, rfl⟩ := List.mem_map.1 hx
  exact ⟨f, rfl⟩
set_option maxRecDepth 100000 in
theorem newring_i (w : World) : Calls Try.prog 13 #[] w fun e w' => e = .returned (.pointer (some ⟨w.heap.size, 0, none⟩)) ∧ w' = w.alloc (.cells (RingCells (.slice none 0 0) 0 0 []) 73) := by
  go_enter Try.func13, Try.ntmps13
  go_wp2
  go_ret
  exact ⟨rfl, rfl⟩
theorem ring_newi (w : World) : Ring (w.alloc (.cells (RingCells (.slice none 0 0) 0 0 []) 73)) w.heap.size 73 3 1 [] none [] :=
  ⟨.slice none 0 0, 0, 0, rfl, ⟨heap_alloc_new w _, Nat.le_refl _, by omega, .inl ⟨rfl, rfl, rfl⟩⟩⟩
set_option maxRecDepth 100000 in
theorem len_i (w : World) (b : Nat) (T : TypeId) (rest : List Value) (g : Option Nat) (l : List (List Value)) (n : Int) (hn : (l.length : Int) = n) (h : Ring w b T 3 1 rest g l) :
    Calls Try.prog 21 #[.pointer (some ⟨b, 0, none⟩)] w fun e w' => e = .returned (.int .i64 n) ∧ w = w' := by
  obtain ⟨v, L, f, hv, hR⟩ := h
  have hc2 := hR.cell2
  rw [hn] at hc2
  clear hn hR hv
  go_enter Try.func21, Try.ntmps21
  go_wp2
  go_ret
  exact ⟨rfl, rfl⟩
set_option maxRecDepth 100000 in
theorem at_outi (w : World) (b : Nat) (T : TypeId) (rest : List Value) (g : Option Nat) (l : List (List Value)) (i : Int) (h : Ring w b T 3 1 rest g l) (hi : i < 0 ∨ (l.length : Int) ≤ i) :
    Calls Try.prog 20 #[.pointer (some ⟨b, 0, none⟩), .int .i64 i] w fun e w' => e = .returned (.tuple #[.int .i64 0, .bool false]) ∧ w = w' := by
  obtain ⟨v, L, f, hv, hR⟩ := h
  have hc2 := hR.cell2
  clear hv hR
  rcases hi with hi | hi
  · go_enter Try.func20, Try.ntmps20
    go_wp2
    go_ret2
    exact ⟨rfl, rfl⟩
  · by_cases hi0 : i < 0
    · go_enter Try.func20, Try.ntmps20
      go_wp2
      go_ret2
      exact ⟨rfl, rfl⟩
    · go_enter Try.func20, Try.ntmps20
      go_wp2
      go_ret2
      exact ⟨rfl, rfl⟩
set_option maxRecDepth 100000 in
theorem at_ini (w1 : World) (b : Nat) (T : TypeId) (rest : List Value) (g : Option Nat) (l : List (List Value)) (i : Nat) (x : Int) (h1 : Ring w1 b T 3 1 rest g l) (hi : l[i]? = some ([.int .i64 x] : List Value)) :
    Calls Try.prog 20 #[.pointer (some ⟨b, 0, none⟩), .int .i64 (i : Int)] w1 fun e w' => e = .returned (.tuple #[.int .i64 x, .bool true]) ∧ ∃ n, w' = w1.drewN n := by
  have hil := (List.getElem?_eq_some_iff.1 hi).1
  have hiI : (i : Int) < (l.length : Int) := by omega
  obtain ⟨v, L, f, hv, hR⟩ := h1
  have hle := hR.le
  have hbd := hR.bd
  rcases hR.row with ⟨_, h0, _⟩ | ⟨gb, F, hne, rfl, hf, hr, hx⟩
  · omega
  · have hc0 := hR.cell0
    have hc1 := hR.cell1
    have hc2 := hR.cell2
    have hx1 := el_i (hx i _ hi)
    have hp : (f + i) % L < L := Nat.mod_lt _ (by omega)
    have hq0 := hr.cell (i := (f + i) % L) (by omega)
    rw [hx1] at hq0
    simp only [List.getD_cons_zero] at hq0
    have hsum : IntKind.i64.wrap ((f : Int) + (i : Int)) = ((f + i : Nat) : Int) := by rw [IntWalk.i64_in _ (by omega)]; omega
    have hmod : ((f + i : Nat) : Int).tmod (L : Int) = (((f + i) % L : Nat) : Int) := by rw [Int.tmod_eq_emod_of_nonneg (by omega)]; rfl
    have hLz : ¬ L = 0 := by omega
    have hpI : (((f + i) % L : Nat) : Int) < (L : Int) := by omega
    clear hx1 hx hr hp hi hR hv
    generalize (f + i) % L = p at *
    generalize f + i = fk at *
    go_enter Try.func20, Try.ntmps20
    go_wp2
    go_quiet (fail)
    go_wp2
    go_ret2
    exact ⟨rfl, _, rfl⟩
set_option maxRecDepth 100000 in
theorem pop_nonei (w1 : World) (b : Nat) (T : TypeId) (rest : List Value) (g : Option Nat) (h1 : Ring w1 b T 3 1 rest g []) :
    Calls Try.prog 15 #[.pointer (some ⟨b, 0, none⟩)] w1 fun e w' => e = .returned (.tuple #[.int .i64 0, .bool false]) ∧ w1 = w' := by
  go_enter Try.func15, Try.ntmps15
  go_wp2_with fail
  refine (len_i _ b T rest g _ _ rfl h1).mono ?_
  rintro e w2 ⟨rfl, rfl⟩
  go_wp2_with fail
  refine (at_outi _ b T rest g _ _ h1 (by simp)).mono ?_
  rintro e w2 ⟨rfl, rfl⟩
  go_wp2
  go_ret2
  exact ⟨rfl, rfl⟩
def Poppedi (w : World) (b : Nat) (T : TypeId) (rest : List Value) (g : Option Nat) (l : List (List Value)) (w' : World) : Prop := Ring w' b T 3 1 rest g l ∧ Only (RS b g) w w'
set_option maxRecDepth 100000 in
set_option maxHeartbeats 2000000 in
theorem pop_somei (w1 : World) (b : Nat) (T : TypeId) (rest : List Value) (g : Option Nat) (l : List (List Value)) (x : Int) (h1 : Ring w1 b T 3 1 rest g (l ++ [([.int .i64 x] : List Value)])) (hl : l.length ≤ 3000000) :
    Calls Try.prog 15 #[.pointer (some ⟨b, 0, none⟩)] w1 fun e w' => e = .returned (.tuple #[.int .i64 x, .bool true]) ∧ Poppedi w1 b T rest g l w' := by
  obtain ⟨n1, hnn1⟩ : ∃ n1, n1 = l.length + 1 := ⟨_, rfl⟩
  have hlen : ((l ++ [([.int .i64 x] : List Value)]).length : Int) = (n1 : Int) := by rw [List.length_append, hnn1]; rfl
  have hat : (l ++ [([.int .i64 x] : List Value)])[l.length]? = some ([.int .i64 x] : List Value) := by simp
  have hw1 : IntKind.i64.wrap ((n1 : Int) - 1) = (l.length : Int) := by rw [IntWalk.i64_in _ (by omega)]; omega
  have HN1 := Lib.hid hnn1
  have HLEN := Lib.hid hlen
  have HAT := Lib.hid hat
  clear hlen hat hnn1
  go_enter Try.func15, Try.ntmps15
  go_wp2_with fail
  refine (len_i _ b T rest g _ _ HLEN.out h1).mono ?_
  rintro e w2 ⟨rfl, rfl⟩
  go_wp2_with fail
  refine (at_ini _ b T rest g _ _ x h1 HAT.out).mono ?_
  rintro e w2 ⟨rfl, n2, rfl⟩
  have h2 := h1.drewN n2
  have hO2 : Only (RS b g) w1 (w1.drewN n2) := (Only.refl _ w1).drewN n2
  clear hw1 h1
  generalize w1.drewN n2 = w4 at *
  go_upto_if 15 with fail
  go_upto_region 4 with fail
  obtain ⟨v, L, f, hv, hR⟩ := h2
  have hle := hR.le
  have hbd := hR.bd
  have hnn1 := HN1.out
  have hll : (l ++ [([.int .i64 x] : List Value)]).length = n1 := by rw [List.length_append, hnn1]; rfl
  rw [hll] at hle
  rcases hR.row with ⟨_, h0, _⟩ | ⟨gb, F, hne, rfl, hf, hr, hx⟩
  · omega
  · have hblk := hR.blk
    rw [hll] at hblk
    have hc0 : w4.cell? ⟨b, 0, none⟩ = some (.slice (some ⟨gb, 0, none⟩) L L) := cell_of_blk hblk 0 _ rfl
    have hc1 : w4.cell? ⟨b, 1, none⟩ = some (.int .i64 (f : Int)) := cell_of_blk hblk 1 _ rfl
    have hc2 : w4.cell? ⟨b, 2, none⟩ = some (.int .i64 (n1 : Int)) := cell_of_blk hblk 2 _ rfl
    have hp : (f + l.length) % L < L := Nat.mod_lt _ (by omega)
    have hn0 := hr.cell (i := (f + l.length) % L) (by omega)
    have hz0 := hr.frozen ((f + l.length) % L)
    have hs1 : IntKind.i64.wrap ((f : Int) + (n1 : Int)) = ((f + l.length + 1 : Nat) : Int) := by rw [IntWalk.i64_in _ (by omega)]; omega
    have hs2 : IntKind.i64.wrap (((f + l.length + 1 : Nat) : Int) - 1) = ((f + l.length : Nat) : Int) := by rw [IntWalk.i64_in _ (by omega)]; omega
    have hmod : ((f + l.length : Nat) : Int).tmod (L : Int) = (((f + l.length) % L : Nat) : Int) := by rw [Int.tmod_eq_emod_of_nonneg (by omega)]; rfl
    have hLz : ¬ L = 0 := by omega
    have hpI : (((f + l.length) % L : Nat) : Int) < (L : Int) := by omega
    have hcn := fun i (h : i < l.length) => circ_ne L f i l.length (by omega) (by omega) (by omega)
    have HCN := Lib.hid hcn
    have HLL := Lib.hid hll
    have HXX := Lib.hid hx
    have HVV := Lib.hid hv
    clear hcn hll hx hv hR hnn1
    generalize hpp : (f + l.length) % L = p at *
    clear hpp
    generalize f + l.length + 1 = q1 at *
    generalize f + l.length = q2 at *
    go_still_tail 22, (by kernel_rfl)
    have hblkd : w4.drew.heap[b]? = some (.cells (RingCells (.slice (some ⟨gb, 0, none⟩) L L) f n1 rest) T (0, 0)) := hblk
    have hrd := hr.drew
    have hOd : Only (RS b g) w1 w4.drew := hO2.drew
    have hnd0 : w4.drew.cell? ⟨gb, p, none⟩ = _ := hn0
    have hzd0 : w4.drew.frozen? ⟨gb, p, none⟩ = false := hz0
    change wpList _ _ _ _ _ w4.drew
    generalize w4.drew = w5 at *
    clear hblk hr hO2 hn0 hz0 hc0 hc1 hc2 hs1 hs2 hmod
    have hgg : g = some gb := HVV.out.symm
    have hr5 := hrd.set p (.int .i64 0)
    have hblk5 := (Below.heap_setCell w5 ⟨gb, p, none⟩ (.int .i64 0) b (by show b ≠ gb; omega)).trans hblkd
    have hO5 : Only (RS b g) w1 (w5.setCell ⟨gb, p, none⟩ (.int .i64 0)) := hOd.setCell (.inr (.inr hgg)) _
    clear hblkd hrd hOd
    go_upto_region 5 with fail
    clear hnd0 hzd0
    generalize w5.setCell ⟨gb, p, none⟩ (.int .i64 0) = w6 at *
    have hc2 : w6.cell? ⟨b, 2, none⟩ = some (.int .i64 (n1 : Int)) := cell_of_blk hblk5 2 _ rfl
    have hf2 : w6.frozen? ⟨b, 2, none⟩ = false := frozen_of_row w6 b 2 _ _ hblk5
    have hs3 : IntKind.i64.wrap ((n1 : Int) - 1) = (l.length : Int) := by have := HN1.out; rw [IntWalk.i64_in _ (by omega)]; omega
    have HBLK := Lib.hid hblk5
    clear hblk5
    go_wp2
    go_ret2
    refine ⟨rfl, ⟨.slice (some ⟨gb, 0, none⟩) L L, L, f, hgg.symm, ⟨(heap_setCell_same _ _ _ _ _ _ HBLK.out).trans rfl, by have := HN1.out; omega, hbd, .inr ⟨gb, _, hne, rfl, hf, hr5.setOther (a := ⟨b, 2, none⟩) (by show gb ≠ b; exact hne) _, fun i u hi j hj => ?_⟩⟩⟩, hO5.setCell (.inr (.inl rfl)) _⟩
    obtain rfl : j = 0 := by omega
    have hil := (List.getElem?_eq_some_iff.1 hi).1
    have h5 := HXX.out i u (by rw [List.getElem?_append_left hil]; exact hi) 0 hj
    have hne2 := HCN.out i hil
    rw [if_neg (by omega)]
    exact h5
end Go.Proofs.Ytjdobemljghkbaa
