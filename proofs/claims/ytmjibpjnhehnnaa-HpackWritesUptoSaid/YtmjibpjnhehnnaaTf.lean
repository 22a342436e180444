/- The functions of a ring of fields, walked. -/
import Derived.Test.YtmjibpjnhehnnaaTr
namespace Go.Proofs.Ytmjibpjnhehnnaa
open Go.RowKit
attribute [local go_sem ↓] Go.wp_at_zero Go.wp_at_succ

theorem info_f : (Try.prog.info? 57).map (fun i => (i.zero, i.size, i.bytes)) = some (some (.agg #[.string ⟨#[]⟩, .string ⟨#[]⟩]), 2, 32) := by kernel_rfl
theorem max8_f (n m : Nat) (h : max 8 (2 * n) = m) (ts : Array TypeId) (t : TypeId) (w : World) : (Builtin.max_ ts t #[.int .i64 8, .int .i64 (2 * (n : Int))]).run Try.prog w = .ok (.int .i64 (m : Int)) w := by
  subst h
  simp [Builtin.max_, Builtin.max2]
  split <;> omega
/-- An element's cells. -/
theorem el_f {x : List Value} {F : Nat → Value} {p : Nat} (h : ∀ j, j < 2 → x[j]? = some (F (p * 2 + j))) : F (p * 2) = x.getD 0 undef ∧ F (p * 2 + 1) = x.getD 1 undef := by
  have h0 := h 0 (by omega)
  have h1 := h 1 (by omega)
  rw [Nat.add_zero] at h0
  simp [List.getD_eq_getElem?_getD, h0, h1]

/-- What growing leaves. -/
def Grownf (w : World) (b : Nat) (T : TypeId) (rest : List Value) (M : Nat) (l : List (List Value)) (w' : World) : Prop :=
  ∃ g, w.heap.size ≤ g ∧ RingL w' b T 57 2 rest (.slice (some ⟨g, 0, none⟩) M M) M 0 l ∧ Only (· = b) w w'
set_option maxRecDepth 100000 in
set_option maxHeartbeats 1000000 in
theorem grow_f (w : World) (b : Nat) (T : TypeId) (rest : List Value) (v : Value) (L f M : Nat) (l : List (List Value)) (h : RingL w b T 57 2 rest v L f l) (hL : l.length = L) (hb : L ≤ 2000000) (hM : max 8 (2 * L) = M) (hel : ∀ x ∈ l, ∃ y z : ByteArray, x = [.string y, .string z]) :
    Calls Try.prog 81 #[.pointer (some ⟨b, 0, none⟩)] w fun e w' => e = .returned (.tuple #[]) ∧ Grownf w b T rest M l w' := by
  have hmax := max8_f L M hM
  have hM8 : 8 ≤ M := by omega
  have hM2 : L < M := by omega
  have hMb : M ≤ 4000008 := by omega
  have hmk := fun w => run_make_rowN (P := Try.prog) 28 57 (.agg #[.string ⟨#[]⟩, .string ⟨#[]⟩]) 2 32 Try.underlying28 info_f M (by omega) (by omega) w
  have hc0 := h.cell0
  have hc1 := h.cell1
  have hc2 := h.cell2
  obtain ⟨A, rfl⟩ := h.slice_
  have hLI : (L : Int) ≤ 2000000 := by omega
  have HL := Lib.hid hL
  have HM := Lib.hid hM
  rw [hL] at hc2
  clear hM hL
  go_enter Try.func81, Try.ntmps81
  go_upto_region 1 with fail
  have hrow0 := rowIs_of_heap (n := M * 2) (heap_alloc_new w (.cells (madeCells ((.agg #[.string ⟨#[]⟩, .string ⟨#[]⟩]) : Value).cells (M * 2)) 57)) (size_madeCells _ _)
  have hO0 : Only (· = b) w (w.alloc (.cells (madeCells #[.string ⟨#[]⟩, .string ⟨#[]⟩] (M * 2)) 57)) := (Only.refl _ _).alloc _
  have hR0 : RingL (w.alloc (.cells (madeCells #[.string ⟨#[]⟩, .string ⟨#[]⟩] (M * 2)) 57)) b T 57 2 rest (.slice A L L) L f l := h.only (Only.of_below (fun _ => False) ((Below.refl _ _).alloc (Nat.le_refl _) _)) id (fun _ _ h => h)
  have hrow : ∃ F, (w.alloc (.cells (madeCells #[.string ⟨#[]⟩, .string ⟨#[]⟩] (M * 2)) 57)).rowIs w.heap.size 57 (M * 2) F := ⟨_, hrow0⟩
  have hgl := hR0.lt
  have hbw := h.lt
  have hvl := h.row.lt
  clear hrow0 hc0 hc1 hc2 h hmax hmk
  generalize w.alloc (.cells (madeCells #[.string ⟨#[]⟩, .string ⟨#[]⟩] (M * 2)) 57) = w1 at *
  generalize hg : w.heap.size = g at *
  have HG := Lib.hid hg
  clear hg
  have hc2 := hR0.cell2
  rw [HL.out] at hc2
  go_wp2
  clear hc2
  go_loopw [16] (fun i wr => ∃ (k : Nat) (F : Nat → Value), k ≤ L ∧ i = .int .i64 (k : Int) ∧ wr.rowIs g 57 (M * 2) F ∧ (∀ i x, i < k → l[i]? = some x → ∀ j, j < 2 → x[j]? = some (F (i * 2 + j))) ∧ RingL wr b T 57 2 rest (.slice A L L) L f l ∧ Only (· = b) w wr) (fun i _ => L - (intOf i).toNat)
  case atStart =>
    obtain ⟨F, hF⟩ := hrow
    exact ⟨0, F, Nat.zero_le _, rfl, hF, fun i x hi => absurd hi (by omega), hR0, hO0⟩
  case round =>
    clear hrow hR0 hO0 hgl
    obtain ⟨k, F, hk, rfl, hF, hx, hR, hO⟩ := hrel
    by_cases hlt : k < L
    · obtain ⟨x, hlx⟩ : ∃ x, l[k]? = some x := ⟨l[k]'(by have := HL.out; omega), List.getElem?_eq_getElem _⟩
      obtain ⟨y, z, rfl⟩ := hel x (List.mem_of_getElem? hlx)
      rcases hR.row with ⟨_, h0, _⟩ | ⟨g0, F0, hne0, hv, hf, hr0, hx0⟩
      · omega
      · injection hv with hA
        subst hA
        have hx1 := el_f (hx0 k _ hlx)
        have hp : (f + k) % L < L := Nat.mod_lt _ (by omega)
        have hq0 := hr0.cell (i := (f + k) % L * 2) (by omega)
        have hq1 := hr0.cell (i := (f + k) % L * 2 + 1) (by omega)
        rw [hx1.1] at hq0
        rw [hx1.2] at hq1
        simp only [List.getD_cons_zero, List.getD_cons_succ] at hq0 hq1
        have hn0 := hF.cell (i := k * 2) (by omega)
        have hn1 := hF.cell (i := k * 2 + 1) (by omega)
        have hz0 := hF.frozen (k * 2)
        have hz1 := hF.frozen (k * 2 + 1)
        have hc0 := hR.cell0
        have hc1 := hR.cell1
        have hsum : IntKind.i64.wrap ((f : Int) + (k : Int)) = ((f + k : Nat) : Int) := by rw [IntWalk.i64_in _ (by omega)]; omega
        have hmod : ((f + k : Nat) : Int).tmod (L : Int) = (((f + k) % L : Nat) : Int) := by rw [Int.tmod_eq_emod_of_nonneg (by omega)]; rfl
        have hLz : ¬ L = 0 := by omega
        have hpI : (((f + k) % L : Nat) : Int) < (L : Int) := by omega
        have hkM : (k : Int) < (M : Int) := by omega
        have hkI : (k : Int) < (L : Int) := by omega
        have HLX := Lib.hid hlx
        clear hx1 hx0 hr0 hp hlx
        generalize (f + k) % L = p at *
        generalize f + k = fk at *
        go_upto_region 5 with fail
        go_still_tail 21, (by kernel_rfl)
        have hFd := hF.drew
        have hRd : RingL wr.drew b T 57 2 rest (.slice (some ⟨g0, 0, none⟩) L L) L f l := hR.only ((Only.refl (fun _ => False) wr).drew) id (fun _ _ h => h)
        have hOd : Only (· = b) w wr.drew := hO.drew
        have hnd0 : wr.drew.cell? ⟨g, k * 2, none⟩ = _ := hn0
        have hnd1 : wr.drew.cell? ⟨g, k * 2 + 1, none⟩ = _ := hn1
        have hzd0 : wr.drew.frozen? ⟨g, k * 2, none⟩ = false := hz0
        have hzd1 : wr.drew.frozen? ⟨g, k * 2 + 1, none⟩ = false := hz1
        change wpList _ _ _ _ _ wr.drew
        generalize wr.drew = wd at *
        clear hF hR hO hn0 hn1 hz0 hz1 hc0 hc1 hq0 hq1
        have hF2 := (hFd.set (k * 2) (.string y)).set (k * 2 + 1) (.string z)
        have hO2 := Only.setCell (S := fun i => i = g) (p := ⟨g, k * 2 + 1, none⟩) (Only.setCell (S := fun i => i = g) (p := ⟨g, k * 2, none⟩) (Only.refl _ wd) (.inr rfl) (.string y)) (.inr rfl) (.string z)
        have hR2 := hRd.only hO2 (by omega) (fun q hq => by have := (hvl q hq).1; omega)
        have hO3 : Only (· = b) w ((wd.setCell ⟨g, k * 2, none⟩ (.string y)).setCell ⟨g, k * 2 + 1, none⟩ (.string z)) := (hOd.setCell (.inl (by show w.heap.size ≤ g; have := HG.out; omega)) _).setCell (.inl (by show w.heap.size ≤ g; have := HG.out; omega)) _
        have hx2 : ∀ i x, i < k + 1 → l[i]? = some x → ∀ j, j < 2 → x[j]? = some ((fun j => if j = k * 2 + 1 then Value.string z else if j = k * 2 then Value.string y else F j) (i * 2 + j)) := by
          intro i x hi hxi j hj
          by_cases he : i = k
          · subst he
            rw [HLX.out] at hxi
            injection hxi with hxi
            subst hxi
            rcases Nat.lt_or_ge j 1 with h1 | h1
            · obtain rfl : j = 0 := by omega
              simp
            · obtain rfl : j = 1 := by omega
              simp
          · simp only
            rw [if_neg (by omega), if_neg (by omega)]
            exact hx i x (by omega) hxi j hj
        have HX2 := Lib.hid hx2
        have hkL : (k : Int) ≤ 2000000 := by omega
        clear hFd hRd hOd hx hx2
        go_wp2
        go_roundw
        case measure => simp [intOf] <;> omega
        case rel => exact ⟨k + 1, _, by omega, by go_num, hF2, HX2.out, hR2, hO3⟩
    · obtain rfl : k = L := by omega
      have hc0 := hR.cell0
      have hc1 := hR.cell1
      have hf0 := hR.thawed 0
      have hf1 := hR.thawed 1
      have hblk := hR.blk
      have hbg : b ≠ g := by omega
      have HB := Lib.hid hblk
      have HBG := Lib.hid hbg
      clear hblk hbg hR
      go_wp2
      go_end0
      have hF2 := (hF.setOther (a := ⟨b, 0, none⟩) (by have := HBG.out; show g ≠ b; omega) (.slice (some ⟨g, 0, none⟩) M M)).setOther (a := ⟨b, 1, none⟩) (by have := HBG.out; show g ≠ b; omega) (.int .i64 0)
      have hk2 := HL.out
      refine ⟨rfl, g, by have := HG.out; omega, ⟨?_, by omega, hMb, .inr ⟨g, F, by have := HBG.out; omega, rfl, by omega, hF2, fun i x hi j hj => ?_⟩⟩, (hO.setCell (.inr rfl) _).setCell (.inr rfl) _⟩
      · rw [heap_setCell_same _ _ _ _ _ _ (heap_setCell_same _ _ _ _ _ _ HB.out)]
        rfl
      · have hil := (List.getElem?_eq_some_iff.1 hi).1
        rw [Nat.zero_add, Nat.mod_eq_of_lt (by omega)]
        exact hx i x (by omega) hi j hj
/-- What stands ahead of the store: there is room. -/
def Midf (w1 : World) (b : Nat) (T : TypeId) (rest : List Value) (g : Option Nat) (l : List (List Value)) (wx : World) : Prop :=
  ∃ v L f, RingL wx b T 57 2 rest v L f l ∧ l.length < L ∧ Only (RS b g) w1 wx ∧ (v.ownBlock = g ∨ ∃ k, v.ownBlock = some k ∧ w1.heap.size ≤ k)
def Pushedf (w : World) (b : Nat) (T : TypeId) (rest : List Value) (g : Option Nat) (l : List (List Value)) (w' : World) : Prop :=
  ∃ g', Ring w' b T 57 2 rest g' l ∧ Only (RS b g) w w' ∧ (g' = g ∨ ∃ k, g' = some k ∧ w.heap.size ≤ k)
set_option maxRecDepth 100000 in
set_option maxHeartbeats 2000000 in
theorem push_f (w : World) (b : Nat) (T : TypeId) (rest : List Value) (g : Option Nat) (l : List (List Value)) (x y : ByteArray) (h : Ring w b T 57 2 rest g l) (hl : l.length ≤ 2000000) (hel : ∀ x ∈ l, ∃ y z : ByteArray, x = [.string y, .string z]) :
    Calls Try.prog 70 #[.pointer (some ⟨b, 0, none⟩), .agg #[.string x, .string y]] w fun e w' => e = .returned (.tuple #[]) ∧ Pushedf w b T rest g (([.string x, .string y] : List Value) :: l) w' := by
  have hgl := h.lt
  go_enter Try.func70, Try.ntmps70
  go_upto_region 2 with fail
  have hB0 : Below w.heap.size w (w.alloc (.cells #[.string x, .string y] 57)) := (Below.refl _ _).alloc (Nat.le_refl _) _
  have h1 : Ring (w.alloc (.cells #[.string x, .string y] 57)) b T 57 2 rest g l := h.below hB0
  have hbox := heap_alloc_new w (.cells #[.string x, .string y] 57)
  have hsz : (w.alloc (.cells #[.string x, .string y] 57)).heap.size = w.heap.size + 1 := by simp
  have HSZ := Lib.hid hsz
  clear h hsz
  generalize w.alloc (.cells #[.string x, .string y] 57) = w1 at *
  generalize hB : w.heap.size = B at *
  have HBE := Lib.hid hB
  have HBOX := Lib.hid hbox
  clear hB hbox
  obtain ⟨v, L, f, hv, hR⟩ := h1
  have hc0 := hR.cell0
  have hc2 := hR.cell2
  obtain ⟨A, rfl⟩ := hR.slice_
  have hle := hR.le
  go_quiet (fail)
  have hR2 : RingL (w1.drewN nq) b T 57 2 rest (.slice A L L) L f l := hR.only ((Only.refl (fun _ => False) w1).drewN nq) id (fun _ _ h => h)
  have hO2 : Only (RS b g) w1 (w1.drewN nq) := (Only.refl _ w1).drewN nq
  clear hc0 hc2
  generalize w1.drewN nq = w2 at *
  have HV := Lib.hid hv
  clear hv
  go_upto_if 15 with fail
  go_cut [] (fun wx => Midf w1 b T rest g l wx)
  case first =>
    by_cases hn : l.length = L
    · have hnI : ((l.length : Int) == (L : Int)) = true := by rw [beq_iff_eq]; omega
      have HN := Lib.hid hn
      clear hn
      go_wp2_with fail
      refine (grow_f w2 b T rest _ L f _ l hR2 HN.out (by have := HN.out; omega) rfl hel).mono ?_
      rintro e w3 ⟨rfl, g3, hg3, hR3, hO3⟩
      go_wp2
      go_meet
      refine ⟨_, _, _, hR3, by have := HN.out; omega, hO2.then hO3 (fun _ _ h => h) (fun _ _ h => .inl h), .inr ⟨g3, rfl, Nat.le_trans hO2.size hg3⟩⟩
    · have hnI : ((l.length : Int) == (L : Int)) = false := by rw [beq_eq_false_iff_ne]; omega
      have HN := Lib.hid hn
      clear hn
      go_wp2
      go_meet
      exact ⟨_, _, _, hR2, by have := HN.out; omega, hO2, .inl HV.out⟩
  case rest =>
    obtain ⟨v, L, f, hR, hlt, hO, hv⟩ := hcut
    clear hR2 hO2 HV hle
    have hrow := hR.row
    have hbd := hR.bd
    rcases hrow with ⟨_, h0, _⟩ | ⟨gb, F, hne, rfl, hf, hr, hx⟩
    · omega
    · have hc0 := hR.cell0
      have hc1 := hR.cell1
      have hf1 := hR.thawed 1
      have hs1 : IntKind.i64.wrap ((f : Int) + (L : Int)) = ((f + L : Nat) : Int) := by rw [IntWalk.i64_in _ (by omega)]; omega
      have hs2 : IntKind.i64.wrap (((f + L : Nat) : Int) - 1) = ((f + L - 1 : Nat) : Int) := by rw [IntWalk.i64_in _ (by omega)]; omega
      have hmod : ((f + L - 1 : Nat) : Int).tmod (L : Int) = (((f + L - 1) % L : Nat) : Int) := by rw [Int.tmod_eq_emod_of_nonneg (by omega)]; rfl
      have hLz : ¬ L = 0 := by omega
      have hp : (f + L - 1) % L < L := Nat.mod_lt _ (by omega)
      have hpI : (((f + L - 1) % L : Nat) : Int) < (L : Int) := by omega
      have hcb := fun i h => circ_back L f i h hf
      have hch := circ_here L f
      have HCB := Lib.hid hcb
      have HCH := Lib.hid hch
      clear hcb hch
      generalize (f + L - 1) % L = p at *
      generalize f + L - 1 = q1 at *
      generalize f + L = q2 at *
      go_upto_region 5 with fail
      go_still_tail 20, (by kernel_rfl)
      have hblk : wc.drew.heap[b]? = some (.cells (RingCells (.slice (some ⟨gb, 0, none⟩) L L) f l.length rest) T (0, 0)) := hR.blk
      have hrd := hr.drew
      have hOd : Only (RS b g) w1 wc.drew := hO.drew
      have hcd1 : wc.drew.cell? ⟨b, 1, none⟩ = _ := hc1
      have hfd1 : wc.drew.frozen? ⟨b, 1, none⟩ = _ := hf1
      change wpList _ _ _ _ _ wc.drew
      generalize wc.drew = wd at *
      clear hR hr hO hc0 hc1 hf1
      have hblk2 : (wd.setCell ⟨b, 1, none⟩ (.int .i64 (p : Int))).heap[b]? = some (.cells (RingCells (.slice (some ⟨gb, 0, none⟩) L L) p l.length rest) T (0, 0)) := (heap_setCell_same _ _ _ _ _ _ hblk).trans rfl
      have hr2 := hrd.setOther (a := ⟨b, 1, none⟩) (by show gb ≠ b; exact hne) (.int .i64 (p : Int))
      have hO2 : Only (RS b g) w1 (wd.setCell ⟨b, 1, none⟩ (.int .i64 (p : Int))) := hOd.setCell (.inr (.inl rfl)) _
      clear hblk hrd hOd
      go_upto_region 5 with fail
      clear hcd1 hfd1
      generalize wd.setCell ⟨b, 1, none⟩ (.int .i64 (p : Int)) = w4 at *
      have hc0 : w4.cell? ⟨b, 0, none⟩ = some (.slice (some ⟨gb, 0, none⟩) L L) := cell_of_blk hblk2 0 _ rfl
      have hc1 : w4.cell? ⟨b, 1, none⟩ = some (.int .i64 (p : Int)) := cell_of_blk hblk2 1 _ rfl
      have hbx : w4.heap[B]? = _ := hO2.block' HBOX.out (by
        rintro (e | e)
        · omega
        · have := (hgl.2 B e).1; omega)
      have hb0 : w4.cell? ⟨B, 0, none⟩ = some (.string x) := cell_of_blk hbx 0 _ rfl
      have hb1 : w4.cell? ⟨B, 1, none⟩ = some (.string y) := cell_of_blk hbx 1 _ rfl
      have hn0 := hr2.cell (i := p * 2) (by omega)
      have hn1 := hr2.cell (i := p * 2 + 1) (by omega)
      have hz0 := hr2.frozen (p * 2)
      have hz1 := hr2.frozen (p * 2 + 1)
      clear hbx hs1 hs2 hmod
      go_still_tail 10, (by kernel_rfl)
      have hblk3 : w4.drew.heap[b]? = some (.cells (RingCells (.slice (some ⟨gb, 0, none⟩) L L) p l.length rest) T (0, 0)) := hblk2
      have hr3 := hr2.drew
      have hO3 : Only (RS b g) w1 w4.drew := hO2.drew
      have hnd0 : w4.drew.cell? ⟨gb, p * 2, none⟩ = _ := hn0
      have hnd1 : w4.drew.cell? ⟨gb, p * 2 + 1, none⟩ = _ := hn1
      have hzd0 : w4.drew.frozen? ⟨gb, p * 2, none⟩ = false := hz0
      have hzd1 : w4.drew.frozen? ⟨gb, p * 2 + 1, none⟩ = false := hz1
      change wpList _ _ _ _ _ w4.drew
      generalize w4.drew = w5 at *
      clear hblk2 hr2 hO2 hn0 hn1 hz0 hz1 hc0 hc1 hb0 hb1
      have hr4 := (hr3.set (p * 2) (.string x)).set (p * 2 + 1) (.string y)
      have hblk4 : ((w5.setCell ⟨gb, p * 2, none⟩ (.string x)).setCell ⟨gb, p * 2 + 1, none⟩ (.string y)).heap[b]? = _ := (Below.heap_setCell _ _ _ _ (by show b ≠ gb; omega)).trans ((Below.heap_setCell _ _ _ _ (by show b ≠ gb; omega)).trans hblk3)
      have hgb : w1.heap.size ≤ gb ∨ RS b g gb := by
        rcases hv with hv | ⟨k, hk, hk2⟩
        · exact .inr (.inr hv.symm)
        · injection hk with hk
          subst hk
          exact .inl hk2
      have hO4 : Only (RS b g) w1 ((w5.setCell ⟨gb, p * 2, none⟩ (.string x)).setCell ⟨gb, p * 2 + 1, none⟩ (.string y)) := (hO3.setCell hgb _).setCell hgb _
      clear hblk3 hr3 hO3
      go_upto_region 6 with fail
      clear hnd0 hnd1 hzd0 hzd1
      generalize (w5.setCell ⟨gb, p * 2, none⟩ (.string x)).setCell ⟨gb, p * 2 + 1, none⟩ (.string y) = w6 at *
      have hc2 : w6.cell? ⟨b, 2, none⟩ = some (.int .i64 (l.length : Int)) := cell_of_blk hblk4 2 _ rfl
      have hf2 : w6.frozen? ⟨b, 2, none⟩ = false := frozen_of_row w6 b 2 _ _ hblk4
      have hlI : (l.length : Int) ≤ 2000000 := by omega
      have HBLK := Lib.hid hblk4
      have HXX := Lib.hid hx
      have HHV := Lib.hid hv
      clear hblk4 hx hv
      go_wp2
      go_end0
      refine ⟨rfl, some gb, ⟨.slice (some ⟨gb, 0, none⟩) L L, L, p, rfl, ⟨?_, by rw [List.length_cons]; omega, hbd, .inr ⟨gb, _, hne, rfl, hp, hr4.setOther (a := ⟨b, 2, none⟩) (by show gb ≠ b; exact hne) _, fun i u hi j hj => ?_⟩⟩⟩, ?_, ?_⟩
      · rw [heap_setCell_same _ _ _ _ _ _ HBLK.out, List.length_cons]
        have e : (l.length : Int) + 1 = ((l.length + 1 : Nat) : Int) := by omega
        rw [e]
        rfl
      · cases i with
        | zero =>
          injection hi with hi
          subst hi
          rw [HCH.out]
          rcases Nat.lt_or_ge j 1 with h1 | h1
          · obtain rfl : j = 0 := by omega
            simp
          · obtain rfl : j = 1 := by omega
            simp
        | succ i =>
          have hi2 : l[i]? = some u := hi
          have hil := (List.getElem?_eq_some_iff.1 hi2).1
          obtain ⟨hb1, hb2⟩ := HCB.out i (by omega)
          rw [hb1]
          have h1 := place_ne (sz := 2) (i := j) (j := 0) hj (by omega) hb2
          have h2 := place_ne (sz := 2) (i := j) (j := 1) hj (by omega) hb2
          rw [if_neg (by omega), if_neg (by omega)]
          exact HXX.out i u hi2 j hj
      · have hw : Only (RS b g) w w1 := Only.of_below _ (by rw [HBE.out]; exact hB0)
        exact hw.trans (hO4.setCell (.inr (.inl rfl)) _)
      · rcases HHV.out with h | ⟨k, hk, hk2⟩
        · exact .inl h
        · exact .inr ⟨k, hk, by have := HBE.out; have := HSZ.out; omega⟩
def encF (f : ByteArray × ByteArray) : List Value := [.string f.1, .string f.2]
theorem encF_el (l : List (ByteArray × ByteArray)) : ∀ x ∈ l.map encF, ∃ y z : ByteArray, x = [.string y, .string z] := by
  intro x hx
  obtain ⟨f, _, rfl⟩ := List.mem_map.1 hx
  exact ⟨f.1, f.2, rfl⟩
theorem encF_at (l : List (ByteArray × ByteArray)) (i : Nat) (h : i < l.length) : (l.map encF)[i]? = some [.string (l.getD i (⟨#[]⟩, ⟨#[]⟩)).1, .string (l.getD i (⟨#[]⟩, ⟨#[]⟩)).2] := by
  rw [List.getElem?_map, List.getD_eq_getElem?_getD, List.getElem?_eq_getElem h]
  rfl
theorem ring_newf (w : World) : Ring (w.alloc (.cells (RingCells (.slice none 0 0) 0 0 []) 99)) w.heap.size 99 57 2 [] none [] :=
  ⟨.slice none 0 0, 0, 0, rfl, ⟨heap_alloc_new w _, Nat.le_refl _, by omega, .inl ⟨rfl, rfl, rfl⟩⟩⟩
set_option maxRecDepth 100000 in
theorem len_f (w : World) (b : Nat) (T : TypeId) (rest : List Value) (g : Option Nat) (l : List (List Value)) (n : Int) (hn : (l.length : Int) = n) (h : Ring w b T 57 2 rest g l) :
    Calls Try.prog 66 #[.pointer (some ⟨b, 0, none⟩)] w fun e w' => e = .returned (.int .i64 n) ∧ w = w' := by
  obtain ⟨v, L, f, hv, hR⟩ := h
  have hc2 := hR.cell2
  rw [hn] at hc2
  clear hn hR hv
  go_enter Try.func66, Try.ntmps66
  go_wp2
  go_ret
  exact ⟨rfl, rfl⟩
set_option maxRecDepth 100000 in
theorem at_outf (w : World) (b : Nat) (T : TypeId) (rest : List Value) (g : Option Nat) (l : List (List Value)) (i : Int) (h : Ring w b T 57 2 rest g l) (hi : i < 0 ∨ (l.length : Int) ≤ i) :
    Calls Try.prog 76 #[.pointer (some ⟨b, 0, none⟩), .int .i64 i] w fun e w' => e = .returned (.tuple #[(.agg #[.string ⟨#[]⟩, .string ⟨#[]⟩]), .bool false]) ∧ Below w.heap.size w w' := by
  have hB : Below w.heap.size w (w.alloc (.cells #[.string ⟨#[]⟩, .string ⟨#[]⟩] 57)) := (Below.refl _ _).alloc (Nat.le_refl _) _
  obtain ⟨v, L, f, hv, hR⟩ := h.below hB
  have hc2 := hR.cell2
  clear hv h hR
  rcases hi with hi | hi
  · go_enter Try.func76, Try.ntmps76
    go_wp2
    exact bodyPost_ret (v := .tuple #[.agg #[.string ⟨#[]⟩, .string ⟨#[]⟩], .bool false]) (by simp [results, Try.results76, go_sem]) rfl ⟨rfl, hB.alloc (by simp) _⟩
  · have hi0 : ¬ i < 0 := by omega
    go_enter Try.func76, Try.ntmps76
    go_wp2
    exact bodyPost_ret (v := .tuple #[.agg #[.string ⟨#[]⟩, .string ⟨#[]⟩], .bool false]) (by simp [results, Try.results76, go_sem]) rfl ⟨rfl, hB.alloc (by simp) _⟩
set_option maxRecDepth 100000 in
theorem at_inf (w : World) (b : Nat) (T : TypeId) (rest : List Value) (g : Option Nat) (l : List (List Value)) (i : Nat) (x y : ByteArray) (h : Ring w b T 57 2 rest g l) (hi : l[i]? = some ([.string x, .string y] : List Value)) :
    Calls Try.prog 76 #[.pointer (some ⟨b, 0, none⟩), .int .i64 (i : Int)] w fun e w' => e = .returned (.tuple #[.agg #[.string x, .string y], .bool true]) ∧ Below w.heap.size w w' := by
  have hB : Below w.heap.size w (w.alloc (.cells #[.string ⟨#[]⟩, .string ⟨#[]⟩] 57)) := (Below.refl _ _).alloc (Nat.le_refl _) _
  have h1 := h.below hB
  have hil := (List.getElem?_eq_some_iff.1 hi).1
  have hiI : (i : Int) < (l.length : Int) := by omega
  have hfz : (w.alloc (.cells #[.string ⟨#[]⟩, .string ⟨#[]⟩] 57)).heap[w.heap.size]? = _ := heap_alloc_new w _
  go_enter Try.func76, Try.ntmps76
  go_upto_region 1 with fail
  generalize w.alloc (.cells #[.string ⟨#[]⟩, .string ⟨#[]⟩] 57) = w1 at *
  have HW : Hid (w.heap.size = w.heap.size) := rfl
  have hbs : w.heap.size = w.heap.size := rfl
  clear hbs HW
  generalize hBB : w.heap.size = B at *
  have HBB := Lib.hid hBB
  clear hBB
  obtain ⟨v, L, f, hv, hR⟩ := h1
  have hle := hR.le
  have hbd := hR.bd
  rcases hR.row with ⟨_, h0, _⟩ | ⟨gb, F, hne, rfl, hf, hr, hx⟩
  · omega
  · have hc0 := hR.cell0
    have hc1 := hR.cell1
    have hc2 := hR.cell2
    have hx1 := el_f (hx i _ hi)
    have hp : (f + i) % L < L := Nat.mod_lt _ (by omega)
    have hq0 := hr.cell (i := (f + i) % L * 2) (by omega)
    have hq1 := hr.cell (i := (f + i) % L * 2 + 1) (by omega)
    rw [hx1.1] at hq0
    rw [hx1.2] at hq1
    simp only [List.getD_cons_zero, List.getD_cons_succ] at hq0 hq1
    have hsum : IntKind.i64.wrap ((f : Int) + (i : Int)) = ((f + i : Nat) : Int) := by rw [IntWalk.i64_in _ (by omega)]; omega
    have hmod : ((f + i : Nat) : Int).tmod (L : Int) = (((f + i) % L : Nat) : Int) := by rw [Int.tmod_eq_emod_of_nonneg (by omega)]; rfl
    have hLz : ¬ L = 0 := by omega
    have hpI : (((f + i) % L : Nat) : Int) < (L : Int) := by omega
    have hb0 : w1.cell? ⟨B, 0, none⟩ = some (.string ⟨#[]⟩) := cell_of_blk hfz 0 _ rfl
    have hb1 : w1.cell? ⟨B, 1, none⟩ = some (.string ⟨#[]⟩) := cell_of_blk hfz 1 _ rfl
    have hz0 : w1.frozen? ⟨B, 0, none⟩ = false := frozen_of_row w1 B 0 _ _ hfz
    have hz1 : w1.frozen? ⟨B, 1, none⟩ = false := frozen_of_row w1 B 1 _ _ hfz
    clear hx1 hx hr hp hi hR hv h hfz
    generalize (f + i) % L = p at *
    generalize f + i = fk at *
    go_wp2
    go_still_tail 18, (by kernel_rfl)
    have hBd : Below B w w1.drew := hB.drew
    have hb0d : w1.drew.cell? ⟨B, 0, none⟩ = some (.string ⟨#[]⟩) := hb0
    have hb1d : w1.drew.cell? ⟨B, 1, none⟩ = some (.string ⟨#[]⟩) := hb1
    have hz0d : w1.drew.frozen? ⟨B, 0, none⟩ = false := hz0
    have hz1d : w1.drew.frozen? ⟨B, 1, none⟩ = false := hz1
    change wpList _ _ _ _ _ w1.drew
    generalize w1.drew = w2 at *
    clear hc0 hc1 hc2 hq0 hq1 hb0 hb1 hz0 hz1 hB
    go_wp2
    exact bodyPost_ret (v := .tuple #[.agg #[.string x, .string y], .bool true]) (by simp [results, Try.results76, go_sem, hb0d, hb1d]) rfl ⟨rfl, by rw [HBB.out]; exact (hBd.setCell (Nat.le_refl _) _).setCell (Nat.le_refl _) _⟩
set_option maxRecDepth 100000 in
theorem pop_nonef (w : World) (b : Nat) (T : TypeId) (rest : List Value) (g : Option Nat) (h : Ring w b T 57 2 rest g []) :
    Calls Try.prog 71 #[.pointer (some ⟨b, 0, none⟩)] w fun e w' => e = .returned (.tuple #[(.agg #[.string ⟨#[]⟩, .string ⟨#[]⟩]), .bool false]) ∧ Below w.heap.size w w' := by
  have hB : Below w.heap.size w (w.alloc (.cells #[.string ⟨#[]⟩, .string ⟨#[]⟩] 57)) := (Below.refl _ _).alloc (Nat.le_refl _) _
  have h1 := h.below hB
  have hfz : (w.alloc (.cells #[.string ⟨#[]⟩, .string ⟨#[]⟩] 57)).heap[w.heap.size]? = _ := heap_alloc_new w _
  go_enter Try.func71, Try.ntmps71
  go_upto_region 1 with fail
  generalize w.alloc (.cells #[.string ⟨#[]⟩, .string ⟨#[]⟩] 57) = w1 at *
  generalize hBB : w.heap.size = B at *
  have HBB := Lib.hid hBB
  have HFZ := Lib.hid hfz
  clear hBB hfz h
  go_wp2_with fail
  refine (len_f _ b T rest g _ _ rfl h1).mono ?_
  rintro e w2 ⟨rfl, rfl⟩
  go_wp2_with fail
  refine (at_outf _ b T rest g _ _ h1 (by simp)).mono ?_
  rintro e w2 ⟨rfl, hb2⟩
  have hfz2 : w2.heap[B]? = _ := (hb2.block B (heap_lt HFZ.out)).trans HFZ.out
  have hlt := heap_lt hfz2
  have hB2 : Below B w w2 := hB.trans (hb2.mono (Nat.le_of_lt (heap_lt HFZ.out)))
  have HFZ2 := Lib.hid hfz2
  clear hfz2 HFZ
  go_upto_if 15 with fail
  have hB3 : Below B w (w2.alloc (.cells #[.string ⟨#[]⟩, .string ⟨#[]⟩] 57)) := hB2.alloc (Nat.le_of_lt hlt) _
  have hfz3 : (w2.alloc (.cells #[.string ⟨#[]⟩, .string ⟨#[]⟩] 57)).heap[B]? = _ := (Below.heap_alloc _ _ _ hlt).trans HFZ2.out
  have hn3 := heap_alloc_new w2 (.cells #[.string ⟨#[]⟩, .string ⟨#[]⟩] 57)
  generalize w2.alloc (.cells #[.string ⟨#[]⟩, .string ⟨#[]⟩] 57) = w3 at *
  generalize w2.heap.size = B2 at *
  have hb0 : w3.cell? ⟨B, 0, none⟩ = some (.string ⟨#[]⟩) := cell_of_blk hfz3 0 _ rfl
  have hb1 : w3.cell? ⟨B, 1, none⟩ = some (.string ⟨#[]⟩) := cell_of_blk hfz3 1 _ rfl
  have hz0 : w3.frozen? ⟨B, 0, none⟩ = false := frozen_of_row w3 B 0 _ _ hfz3
  have hz1 : w3.frozen? ⟨B, 1, none⟩ = false := frozen_of_row w3 B 1 _ _ hfz3
  have hn0 : w3.cell? ⟨B2, 0, none⟩ = some (.string ⟨#[]⟩) := cell_of_blk hn3 0 _ rfl
  have hn1 : w3.cell? ⟨B2, 1, none⟩ = some (.string ⟨#[]⟩) := cell_of_blk hn3 1 _ rfl
  clear hfz3 hn3 HFZ2
  go_wp2
  exact bodyPost_ret (v := .tuple #[.agg #[.string ⟨#[]⟩, .string ⟨#[]⟩], .bool false]) (by simp [results, Try.results71, go_sem, hb0, hb1]) rfl ⟨rfl, by rw [HBB.out]; exact (hB3.setCell (Nat.le_refl _) _).setCell (Nat.le_refl _) _⟩
def Poppedf (w : World) (b : Nat) (T : TypeId) (rest : List Value) (g : Option Nat) (l : List (List Value)) (w' : World) : Prop := Ring w' b T 57 2 rest g l ∧ Only (RS b g) w w'
set_option maxRecDepth 100000 in
set_option maxHeartbeats 2000000 in
theorem pop_somef (w : World) (b : Nat) (T : TypeId) (rest : List Value) (g : Option Nat) (l : List (List Value)) (x y : ByteArray) (h : Ring w b T 57 2 rest g (l ++ [([.string x, .string y] : List Value)])) (hl : l.length ≤ 3000000) :
    Calls Try.prog 71 #[.pointer (some ⟨b, 0, none⟩)] w fun e w' => e = .returned (.tuple #[.agg #[.string x, .string y], .bool true]) ∧ Poppedf w b T rest g l w' := by
  have hgl := h.lt
  have hB : Below w.heap.size w (w.alloc (.cells #[.string ⟨#[]⟩, .string ⟨#[]⟩] 57)) := (Below.refl _ _).alloc (Nat.le_refl _) _
  have h1 := h.below hB
  have hfz : (w.alloc (.cells #[.string ⟨#[]⟩, .string ⟨#[]⟩] 57)).heap[w.heap.size]? = _ := heap_alloc_new w _
  obtain ⟨n1, hnn1⟩ : ∃ n1, n1 = l.length + 1 := ⟨_, rfl⟩
  have hlen : ((l ++ [([.string x, .string y] : List Value)]).length : Int) = (n1 : Int) := by rw [List.length_append, hnn1]; rfl
  have hat : (l ++ [([.string x, .string y] : List Value)])[l.length]? = some ([.string x, .string y] : List Value) := by simp
  have hw1 : IntKind.i64.wrap ((n1 : Int) - 1) = (l.length : Int) := by rw [IntWalk.i64_in _ (by omega)]; omega
  have HN1 := Lib.hid hnn1
  have HLEN := Lib.hid hlen
  have HAT := Lib.hid hat
  clear hlen hat hnn1
  go_enter Try.func71, Try.ntmps71
  go_upto_region 1 with fail
  generalize w.alloc (.cells #[.string ⟨#[]⟩, .string ⟨#[]⟩] 57) = w1 at *
  generalize hBB : w.heap.size = B at *
  have HBB := Lib.hid hBB
  have HFZ := Lib.hid hfz
  clear hBB hfz h
  go_wp2_with fail
  refine (len_f _ b T rest g _ _ HLEN.out h1).mono ?_
  rintro e w2 ⟨rfl, rfl⟩
  go_wp2_with fail
  refine (at_inf _ b T rest g _ _ x y h1 HAT.out).mono ?_
  rintro e w2 ⟨rfl, hb2⟩
  have h2 := h1.below hb2
  have hfz2 : w2.heap[B]? = _ := (hb2.block B (heap_lt HFZ.out)).trans HFZ.out
  have hlt := heap_lt hfz2
  have hB2 : Below B w w2 := hB.trans (hb2.mono (Nat.le_of_lt (heap_lt HFZ.out)))
  have HFZ2 := Lib.hid hfz2
  clear hfz2 HFZ hw1 h1
  go_upto_if 15 with fail
  have hB3 : Below B w (w2.alloc (.cells #[.string x, .string y] 57)) := hB2.alloc (Nat.le_of_lt hlt) _
  have h3 : Ring (w2.alloc (.cells #[.string x, .string y] 57)) b T 57 2 rest g (l ++ [([.string x, .string y] : List Value)]) := h2.below ((Below.refl _ _).alloc (Nat.le_refl _) _)
  have hfz3 : (w2.alloc (.cells #[.string x, .string y] 57)).heap[B]? = _ := (Below.heap_alloc _ _ _ hlt).trans HFZ2.out
  have hn3 := heap_alloc_new w2 (.cells #[.string x, .string y] 57)
  generalize w2.alloc (.cells #[.string x, .string y] 57) = w3 at *
  generalize w2.heap.size = B2 at *
  have HN3 := Lib.hid hn3
  have HFZ3 := Lib.hid hfz3
  clear hn3 hfz3 h2 HFZ2 hB2
  go_upto_region 4 with fail
  have hB4 : Below B w (w3.alloc (.cells #[.string ⟨#[]⟩, .string ⟨#[]⟩] 57)) := hB3.alloc (Nat.le_of_lt (heap_lt HFZ3.out)) _
  have h4 : Ring (w3.alloc (.cells #[.string ⟨#[]⟩, .string ⟨#[]⟩] 57)) b T 57 2 rest g (l ++ [([.string x, .string y] : List Value)]) := h3.below ((Below.refl _ _).alloc (Nat.le_refl _) _)
  have hfz4 : (w3.alloc (.cells #[.string ⟨#[]⟩, .string ⟨#[]⟩] 57)).heap[B]? = _ := (Below.heap_alloc _ _ _ (heap_lt HFZ3.out)).trans HFZ3.out
  have hn4 : (w3.alloc (.cells #[.string ⟨#[]⟩, .string ⟨#[]⟩] 57)).heap[B2]? = _ := (Below.heap_alloc _ _ _ (heap_lt HN3.out)).trans HN3.out
  have hm4 := heap_alloc_new w3 (.cells #[.string ⟨#[]⟩, .string ⟨#[]⟩] 57)
  have hb23 := heap_lt HN3.out
  have hb3 := heap_lt HFZ3.out
  generalize w3.alloc (.cells #[.string ⟨#[]⟩, .string ⟨#[]⟩] 57) = w4 at *
  generalize w3.heap.size = B3 at *
  have HN4 := Lib.hid hn4
  have HFZ4 := Lib.hid hfz4
  clear hn4 hfz4 h3 HFZ3 HN3 hB3
  obtain ⟨v, L, f, hv, hR⟩ := h4
  have hle := hR.le
  have hbd := hR.bd
  have hnn1 := HN1.out
  have hll : (l ++ [([.string x, .string y] : List Value)]).length = n1 := by rw [List.length_append, hnn1]; rfl
  rw [hll] at hle
  rcases hR.row with ⟨_, h0, _⟩ | ⟨gb, F, hne, rfl, hf, hr, hx⟩
  · omega
  · have hblk := hR.blk
    rw [hll] at hblk
    have hc0 : w4.cell? ⟨b, 0, none⟩ = some (.slice (some ⟨gb, 0, none⟩) L L) := cell_of_blk hblk 0 _ rfl
    have hc1 : w4.cell? ⟨b, 1, none⟩ = some (.int .i64 (f : Int)) := cell_of_blk hblk 1 _ rfl
    have hc2 : w4.cell? ⟨b, 2, none⟩ = some (.int .i64 (n1 : Int)) := cell_of_blk hblk 2 _ rfl
    have hm0 : w4.cell? ⟨B3, 0, none⟩ = some (.string ⟨#[]⟩) := cell_of_blk hm4 0 _ rfl
    have hm1 : w4.cell? ⟨B3, 1, none⟩ = some (.string ⟨#[]⟩) := cell_of_blk hm4 1 _ rfl
    have hp : (f + l.length) % L < L := Nat.mod_lt _ (by omega)
    have hn0 := hr.cell (i := (f + l.length) % L * 2) (by omega)
    have hn1 := hr.cell (i := (f + l.length) % L * 2 + 1) (by omega)
    have hz0 := hr.frozen ((f + l.length) % L * 2)
    have hz1 := hr.frozen ((f + l.length) % L * 2 + 1)
    have hs1 : IntKind.i64.wrap ((f : Int) + (n1 : Int)) = ((f + l.length + 1 : Nat) : Int) := by rw [IntWalk.i64_in _ (by omega)]; omega
    have hs2 : IntKind.i64.wrap (((f + l.length + 1 : Nat) : Int) - 1) = ((f + l.length : Nat) : Int) := by rw [IntWalk.i64_in _ (by omega)]; omega
    have hmod : ((f + l.length : Nat) : Int).tmod (L : Int) = (((f + l.length) % L : Nat) : Int) := by rw [Int.tmod_eq_emod_of_nonneg (by omega)]; rfl
    have hLz : ¬ L = 0 := by omega
    have hpI : (((f + l.length) % L : Nat) : Int) < (L : Int) := by omega
    have hcn := fun i (h : i < l.length) => circ_ne L f i l.length (by omega) (by omega) (by omega)
    have HCN := Lib.hid hcn
    have HLL := Lib.hid hll
    have HXX := Lib.hid hx
    have HVV := Lib.hid hv
    clear hcn hll hx hv hR hm4 hnn1
    generalize hpp : (f + l.length) % L = p at *
    clear hpp
    generalize f + l.length + 1 = q1 at *
    generalize f + l.length = q2 at *
    go_still_tail 22, (by kernel_rfl)
    have hblkd : w4.drew.heap[b]? = some (.cells (RingCells (.slice (some ⟨gb, 0, none⟩) L L) f n1 rest) T (0, 0)) := hblk
    have hrd := hr.drew
    have hBd : Below B w w4.drew := hB4.drew
    have HNd : Hid (w4.drew.heap[B2]? = some (.cells #[.string x, .string y] 57 (0, 0))) := HN4
    have HFd : Hid (w4.drew.heap[B]? = some (.cells #[.string ⟨#[]⟩, .string ⟨#[]⟩] 57 (0, 0))) := HFZ4
    have hnd0 : w4.drew.cell? ⟨gb, p * 2, none⟩ = _ := hn0
    have hnd1 : w4.drew.cell? ⟨gb, p * 2 + 1, none⟩ = _ := hn1
    have hzd0 : w4.drew.frozen? ⟨gb, p * 2, none⟩ = false := hz0
    have hzd1 : w4.drew.frozen? ⟨gb, p * 2 + 1, none⟩ = false := hz1
    change wpList _ _ _ _ _ w4.drew
    generalize w4.drew = w5 at *
    clear hblk hr hB4 HN4 HFZ4 hn0 hn1 hz0 hz1 hc0 hc1 hc2 hm0 hm1 hs1 hs2 hmod
    have hgg : g = some gb := HVV.out.symm
    have hgB : gb < B := (hgl.2 gb hgg).1
    have hbB : b < B := hgl.1
    have hr5 := (hrd.set (p * 2) (.string ⟨#[]⟩)).set (p * 2 + 1) (.string ⟨#[]⟩)
    have hoth : ∀ k, k ≠ gb → ((w5.setCell ⟨gb, p * 2, none⟩ (.string ⟨#[]⟩)).setCell ⟨gb, p * 2 + 1, none⟩ (.string ⟨#[]⟩)).heap[k]? = w5.heap[k]? := fun k hk => (Below.heap_setCell _ _ _ _ (by show k ≠ gb; exact hk)).trans (Below.heap_setCell _ _ _ _ (by show k ≠ gb; exact hk))
    have hblk5 := (hoth b (by omega)).trans hblkd
    have HN5 := Lib.hid ((hoth B2 (by omega)).trans HNd.out)
    have HF5 := Lib.hid ((hoth B (by omega)).trans HFd.out)
    have hO5 : Only (RS b g) w ((w5.setCell ⟨gb, p * 2, none⟩ (.string ⟨#[]⟩)).setCell ⟨gb, p * 2 + 1, none⟩ (.string ⟨#[]⟩)) := ((Only.of_below _ (by rw [HBB.out]; exact hBd)).setCell (.inr (.inr hgg)) _).setCell (.inr (.inr hgg)) _
    clear hoth hblkd hrd hBd HNd HFd
    go_upto_region 5 with fail
    clear hnd0 hnd1 hzd0 hzd1
    generalize (w5.setCell ⟨gb, p * 2, none⟩ (.string ⟨#[]⟩)).setCell ⟨gb, p * 2 + 1, none⟩ (.string ⟨#[]⟩) = w6 at *
    have hc2 : w6.cell? ⟨b, 2, none⟩ = some (.int .i64 (n1 : Int)) := cell_of_blk hblk5 2 _ rfl
    have hf2 : w6.frozen? ⟨b, 2, none⟩ = false := frozen_of_row w6 b 2 _ _ hblk5
    have hs3 : IntKind.i64.wrap ((n1 : Int) - 1) = (l.length : Int) := by have := HN1.out; rw [IntWalk.i64_in _ (by omega)]; omega
    have HBLK := Lib.hid hblk5
    clear hblk5
    go_upto_region 6 with fail
    have hblk7 : (w6.setCell ⟨b, 2, none⟩ (.int .i64 (l.length : Int))).heap[b]? = some (.cells (RingCells (.slice (some ⟨gb, 0, none⟩) L L) f l.length rest) T (0, 0)) := (heap_setCell_same _ _ _ _ _ _ HBLK.out).trans rfl
    have hr7 := hr5.setOther (a := ⟨b, 2, none⟩) (by show gb ≠ b; exact hne) (.int .i64 (l.length : Int))
    have hn7 := (Below.heap_setCell w6 ⟨b, 2, none⟩ (.int .i64 (l.length : Int)) B2 (by show B2 ≠ b; omega)).trans HN5.out
    have hf7 := (Below.heap_setCell w6 ⟨b, 2, none⟩ (.int .i64 (l.length : Int)) B (by show B ≠ b; omega)).trans HF5.out
    have hO7 : Only (RS b g) w (w6.setCell ⟨b, 2, none⟩ (.int .i64 (l.length : Int))) := hO5.setCell (.inr (.inl rfl)) _
    clear hc2 hf2 hs3 HBLK hr5 HN5 HF5 hO5
    generalize w6.setCell ⟨b, 2, none⟩ (.int .i64 (l.length : Int)) = w7 at *
    have hb0 : w7.cell? ⟨B, 0, none⟩ = some (.string ⟨#[]⟩) := cell_of_blk hf7 0 _ rfl
    have hb1 : w7.cell? ⟨B, 1, none⟩ = some (.string ⟨#[]⟩) := cell_of_blk hf7 1 _ rfl
    have hz0 : w7.frozen? ⟨B, 0, none⟩ = false := frozen_of_row w7 B 0 _ _ hf7
    have hz1 : w7.frozen? ⟨B, 1, none⟩ = false := frozen_of_row w7 B 1 _ _ hf7
    have hn0 : w7.cell? ⟨B2, 0, none⟩ = some (.string x) := cell_of_blk hn7 0 _ rfl
    have hn1 : w7.cell? ⟨B2, 1, none⟩ = some (.string y) := cell_of_blk hn7 1 _ rfl
    have HBLK7 := Lib.hid hblk7
    clear hblk7 hn7 hf7
    go_wp2
    refine bodyPost_ret (v := .tuple #[.agg #[.string x, .string y], .bool true]) (by simp [results, Try.results71, go_sem, hb0, hb1]) rfl ⟨rfl, ⟨.slice (some ⟨gb, 0, none⟩) L L, L, f, hgg.symm, ⟨(Below.heap_setCell _ _ _ _ (by show b ≠ B; omega)).trans ((Below.heap_setCell _ _ _ _ (by show b ≠ B; omega)).trans HBLK7.out), by have := HN1.out; omega, hbd, .inr ⟨gb, _, hne, rfl, hf, (hr7.setOther (a := ⟨B, 0, none⟩) (by show gb ≠ B; omega) _).setOther (a := ⟨B, 1, none⟩) (by show gb ≠ B; omega) _, fun i u hi j hj => ?_⟩⟩⟩, (hO7.setCell (.inl (by show w.heap.size ≤ B; have := HBB.out; omega)) _).setCell (.inl (by show w.heap.size ≤ B; have := HBB.out; omega)) _⟩
    have hil := (List.getElem?_eq_some_iff.1 hi).1
    have h5 := HXX.out i u (by rw [List.getElem?_append_left hil]; exact hi) j hj
    have hne2 := HCN.out i hil
    have h1 := place_ne (sz := 2) (i := j) (j := 0) hj (by omega) hne2
    have h2 := place_ne (sz := 2) (i := j) (j := 1) hj (by omega) hne2
    rw [if_neg (by omega), if_neg (by omega)]
    exact h5
end Go.Proofs.Ytmjibpjnhehnnaa
