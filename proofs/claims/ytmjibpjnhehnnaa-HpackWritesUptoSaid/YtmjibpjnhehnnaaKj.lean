/- A block is read: hpack's Decoder.Read, walked whole; NewDecoder, Limit, Size. -/
import Derived.Test.YtmjibpjnhehnnaaKi
namespace Go.Proofs.Ytmjibpjnhehnnaa
open Go.RowKit
attribute [local go_sem ↓] Go.wp_at_zero Go.wp_at_succ

/-- What a decoder makes of a block: its fields, an error's number; what is broken from then on, the table, its room. -/
def Hk.dec (lst lim br m : Nat) (l : List Tk.Fd) (block : List Nat) : List Tk.Fd × Nat × Nat × List Tk.Fd × Nat :=
  if br ≠ 0 then ([], br, br, l, m) else ((Hk.answer lst (Hk.run lst lim l m block)).1, (Hk.answer lst (Hk.run lst lim l m block)).2, (Hk.run lst lim l m block).1, (Hk.run lst lim l m block).2.l, (Hk.run lst lim l m block).2.m)
/-- A reading, whatever is broken. -/
def Rq (w0 : World) (b d : Nat) (g0 : Option Nat) (r lst lim br : Nat) (s : Hk.Rd) (w : World) : Prop :=
  ∃ g v, Tab w b g s.l (Tk.sum s.l) s.m ∧ w.heap[d]? = some (.cells (DB b lst lim br) 55 (0, 0)) ∧ w.heap[r]? = some (.cells (RB d s v) 61 (0, 0)) ∧
    w.ownsRow (r + 1) 57 2 v s.out.length (fcells s.out) ∧ (∀ k, g = some k → v.ownBlock ≠ some k) ∧ w0.heap.size ≤ r ∧ Only (DS b d g0) w0 w ∧ (g = g0 ∨ ∃ k, g = some k ∧ w0.heap.size ≤ k)
section
variable {w0 w w' : World} {b d r lst lim br : Nat} {g g0 : Option Nat} {s : Hk.Rd}
theorem Rq.rk (h : Rq w0 b d g0 r lst lim 0 s w) : Rk w0 b d g0 r lst lim [] s w := by
  obtain ⟨g, v, hT, hd, hr, ho, hne, hz, hO, hg⟩ := h
  exact ⟨g, v, hT, hd, hr, ho, hne, hz, hO, hg, fun p hp => by cases hp⟩
theorem Rk.brk (h : Rk w0 b d g0 r lst lim [] s w) (e : Nat) : Rq w0 b d g0 r lst lim e s (w.setCell ⟨d, 3, none⟩ (.int .i64 (e : Int))) := by
  obtain ⟨g, v, hT, hd, hr, ho, hne, hz, hO, hg, _⟩ := h
  obtain ⟨csb, hb⟩ := hT.blkT
  have hk : Only (fun k => k = d) w (w.setCell ⟨d, 3, none⟩ (.int .i64 (e : Int))) := Only.setCell (S := fun k => k = d) (p := ⟨d, 3, none⟩) (Only.refl _ w) (.inr rfl) _
  refine ⟨g, v, hT.only hk (blk_type_ne hb hd (by decide)) ?_, (heap_setCell_same w d 3 _ _ _ hd).trans rfl, hk.block' hr (blk_type_ne hr hd (by decide)), own_only ho hk ?_, hne, hz, hO.setCell (.inr (.inr (.inl rfl))) _, hg⟩
  · intro k hgk e
    obtain ⟨cs, hc⟩ := hT.rowT k hgk
    exact blk_type_ne hc hd (by decide) e
  · intro k hv e
    obtain ⟨_, cs, hc⟩ := own_type ho k hv
    exact blk_type_ne hc hd (by decide) e
theorem Rq.below (h : Rq w0 b d g0 r lst lim br s w) (hb : Below w.heap.size w w') : Rq w0 b d g0 r lst lim br s w' := by
  obtain ⟨g, v, hT, hd, hr, ho, hne, hz, hO, hg⟩ := h
  exact ⟨g, v, hT.below hb, (hb.block d (heap_lt hd)).trans hd, (hb.block r (heap_lt hr)).trans hr, own_only ho (Only.of_below (fun _ => False) hb) (fun _ _ h => h), hne, hz, hO.then (Only.of_below (fun _ => False) hb) (fun _ _ h => h) (fun _ _ h => h.elim), hg⟩
theorem Rq.drewN (h : Rq w0 b d g0 r lst lim br s w) (n : Nat) : Rq w0 b d g0 r lst lim br s (w.drewN n) := h.below ⟨rfl, rfl, rfl, Nat.le_refl _, fun _ _ => rfl⟩
end
/-- How much is left. -/
def leftR (d r : Nat) (w : World) : Nat := match w.cell? ⟨d, 3, none⟩ with
  | some (.int _ n) => if n = 0 then (match w.cell? ⟨r, 1, none⟩ with | some (.string z) => z.size + 1 | _ => 0) else 0
  | _ => 0
theorem Rq.left {w0 w : World} {b d r lst lim br : Nat} {g0 : Option Nat} {s : Hk.Rd} (h : Rq w0 b d g0 r lst lim br s w) : leftR d r w = if br = 0 then s.rest.length + 1 else 0 := by
  obtain ⟨g, v, hT, hd, hr, _⟩ := h
  have h3 : w.cell? ⟨d, 3, none⟩ = some (.int .i64 (br : Int)) := bcell_of hd 3 _ rfl
  have h1 : w.cell? ⟨r, 1, none⟩ = some (.string (strN s.rest)) := bcell_of hr 1 _ rfl
  unfold leftR
  rw [h3, h1]
  simp only [strN_size]
  by_cases hb : br = 0
  · subst hb; simp
  · rw [if_neg (by omega), if_neg hb]
/-- What reading leaves. -/
def ReadOut (w0 : World) (b d : Nat) (g0 : Option Nat) (lst lim br m : Nat) (l fs : List Tk.Fd) (err : Nat) (e : Ending) (w' : World) : Prop :=
  ∃ v g, e = .returned (.tuple #[v, .int .i64 (err : Int)]) ∧ Tab w' b g l (Tk.sum l) m ∧ w'.heap[d]? = some (.cells (DB b lst lim br) 55 (0, 0)) ∧ w'.ownsRow (w0.heap.size + 1) 57 2 v fs.length (fcells fs) ∧
    (∀ k, g = some k → v.ownBlock ≠ some k) ∧ Only (DS b d g0) w0 w' ∧ (g = g0 ∨ ∃ k, g = some k ∧ w0.heap.size ≤ k)
theorem Rq.out {w0 w : World} {b d r lst lim br : Nat} {g0 : Option Nat} {s : Hk.Rd} (h : Rq w0 b d g0 r lst lim br s w) (err : Nat) : ReadOut w0 b d g0 lst lim br s.m s.l [] err (.returned (.tuple #[.slice none 0 0, .int .i64 (err : Int)])) w := by
  obtain ⟨g, v, hT, hd, hr, ho, hne, hz, hO, hg⟩ := h
  exact ⟨_, g, rfl, hT, hd, World.ownsRow_nil _ _ _ _, (fun k _ h => by cases h), hO, hg⟩
/-- The loop of a reading. -/
def ReadRel (w0 : World) (b d : Nat) (g0 : Option Nat) (r lst lim : Nat) (R : Nat × Hk.Rd) (w : World) : Prop :=
  ∃ br s, Rq w0 b d g0 r lst lim br s w ∧ ((br = 0 ∧ Hk.Bd 70368744177664 s ∧ ∃ k, s.rest.length ≤ k ∧ Hk.readN lst lim k s = R) ∨ (br ≠ 0 ∧ R = (br, s)))

set_option maxRecDepth 100000 in
set_option maxHeartbeats 4000000 in
theorem read_any (w : World) (b d : Nat) (g : Option Nat) (lst lim br m : Nat) (l : List Tk.Fd) (block : ByteArray) (hT : Tab w b g l (Tk.sum l) m) (hd : w.heap[d]? = some (.cells (DB b lst lim br) 55 (0, 0)))
    (hs : Tk.sum l ≤ m) (hm : m ≤ 65536) (hlim : lim ≤ 65536) (hz : block.size ≤ 268435456) (fs : List Tk.Fd) (er br' : Nat) (l' : List Tk.Fd) (m' : Nat) (hdec : Hk.dec lst lim br m l (nats block) = (fs, er, br', l', m')) :
    Calls Try.prog 10 #[.pointer (some ⟨d, 0, none⟩), .string block] w (ReadOut w b d g lst lim br' m' l' fs er) := by
  have hR0 : Rq w b d g w.heap.size lst lim br (Hk.start l m (nats block)) (w.alloc (.cells #[.pointer (some ⟨d, 0, none⟩), .string block, .bool false, .int .i64 0, .slice none 0 0] 61)) := by
    have hb : Below w.heap.size w (w.alloc (.cells #[.pointer (some ⟨d, 0, none⟩), .string block, .bool false, .int .i64 0, .slice none 0 0] 61)) := (Below.refl _ _).alloc (Nat.le_refl _) _
    refine ⟨g, .slice none 0 0, hT.below hb, (hb.block d (heap_lt hd)).trans hd, ?_, World.ownsRow_nil _ _ _ _, fun k _ h => (by cases h), Nat.le_refl _, (Only.refl _ w).alloc _, .inl rfl⟩
    rw [heap_alloc_new]
    unfold RB Hk.start
    rw [strN_nats]
    rfl
  have hbd := Hk.start_bd (C := 70368744177664) hs hm (nats_byte block) (by rw [nats_length]; omega)
  have hd3 : (w.alloc (.cells #[.pointer (some ⟨d, 0, none⟩), .string block, .bool false, .int .i64 0, .slice none 0 0] 61)).cell? ⟨d, 3, none⟩ = some (.int .i64 (br : Int)) := by
    obtain ⟨g, v, hT, hd, hr, _⟩ := hR0; exact bcell_of hd 3 _ rfl
  clear hT hd
  by_cases hbr : br = 0
  · subst hbr
    have hrel : ReadRel w b d g w.heap.size lst lim (Hk.run lst lim l m (nats block)) (w.alloc (.cells #[.pointer (some ⟨d, 0, none⟩), .string block, .bool false, .int .i64 0, .slice none 0 0] 61)) :=
      ⟨0, _, hR0, .inl ⟨rfl, hbd, _, Nat.le_refl _, rfl⟩⟩
    unfold Hk.dec at hdec
    rw [if_neg (by simp)] at hdec
    generalize Hk.run lst lim l m (nats block) = R at *
    have HDEC := Lib.hid hdec
    clear hdec hR0 hbd hd3
    go_enter Try.func10, Try.ntmps10
    go_upto_block 0 with fail
    generalize w.alloc (.cells #[.pointer (some ⟨d, 0, none⟩), .string block, .bool false, .int .i64 0, .slice none 0 0] 61) = w1 at *
    obtain ⟨r, hr⟩ : ∃ r, w.heap.size = r := ⟨_, rfl⟩
    rw [hr] at hrel ⊢
    have HR := Lib.hid hr
    clear hr
    go_wp2
    go_loopw [] (fun wr => ReadRel w b d g r lst lim R wr) (fun wr => leftR d r wr)
    case atStart => exact hrel
    case round =>
      obtain ⟨br, s, hQ, hcase⟩ := hrel
      have hc3 : wr.cell? ⟨d, 3, none⟩ = some (.int .i64 (br : Int)) := by obtain ⟨g, v, hT, hd, hr, _⟩ := hQ; exact bcell_of hd 3 _ rfl
      have hc1 : wr.cell? ⟨r, 1, none⟩ = some (.string (strN s.rest)) := by obtain ⟨g, v, hT, hd, hr, _⟩ := hQ; exact bcell_of hr 1 _ rfl
      rcases hcase with ⟨hb0, hB, k, hk, hR⟩ | ⟨hb0, hR⟩
      · subst hb0
        by_cases hne : s.rest = []
        · have hR2 : R = (0, s) := by rw [← hR]; exact Hk.readN_nil _ _ _ _ hne
          rw [hne, strN_nil] at hc1
          have hd1 : wr.cell? ⟨d, 1, none⟩ = some (.int .i64 (lst : Int)) := by obtain ⟨g, v, hT, hd, hr, _⟩ := hQ; exact bcell_of hd 1 _ rfl
          have hr3 : wr.cell? ⟨r, 3, none⟩ = some (.int .i64 (s.weight : Int)) := by obtain ⟨g, v, hT, hd, hr, _⟩ := hQ; exact bcell_of hr 3 _ rfl
          have hdec := HDEC.out
          rw [hR2] at hdec
          unfold Hk.answer at hdec
          rw [if_neg (by simp)] at hdec
          clear HDEC
          by_cases hlw : lst < s.weight
          · rw [if_pos hlw] at hdec
            simp only [Prod.mk.injEq] at hdec
            obtain ⟨rfl, rfl, rfl, rfl, rfl⟩ := hdec
            have hI : (lst : Int) < (s.weight : Int) := by omega
            clear hR hR2 hne hlw hk
            go_wp2
            go_quiet (fail)
            go_wp2
            go_ret2
            exact (hQ.drewN nq).out 61
          · rw [if_neg hlw] at hdec
            simp only [Prod.mk.injEq] at hdec
            obtain ⟨rfl, rfl, rfl, rfl, rfl⟩ := hdec
            have hI : ¬ (lst : Int) < (s.weight : Int) := by omega
            clear hR hR2 hne hlw hk
            go_wp2
            go_quiet (fail)
            obtain ⟨g1, v, hT, hd, hr, ho, hne, hz1, hO, hg⟩ := hQ.drewN nq
            have hr4 : wr.cell? ⟨r, 4, none⟩ = some v := bcell_of hr 4 _ rfl
            obtain ⟨A, c, rfl⟩ := own_slice ho
            have HD := Lib.hid hd
            clear hd hr
            go_wp2
            go_ret2
            exact ⟨_, g1, rfl, hT, HD.out, by rw [HR.out]; exact ho, hne, hO, hg⟩
        · have hnz := not_empty (s := strN s.rest) (by rw [strN_size]; exact List.length_pos_iff.2 hne)
          have hnz2 : ((strN s.rest).toList != ([] : List UInt8)) = true := by rw [bne, hnz]; rfl
          have hleft := hQ.left
          rw [if_pos rfl] at hleft
          have HL := Lib.hid hleft
          have hK := hQ.rk
          have HK := Lib.hid hR
          have HNE := Lib.hid hne
          clear hQ hR hne hleft
          go_wp2_with fail
          refine (next_any w wr b d g r lst lim s hK hlim HNE.out hB).mono ?_
          rintro e w2 ⟨rfl, hK2⟩
          have hc32 : w2.cell? ⟨d, 3, none⟩ = some (.int .i64 0) := by obtain ⟨g, v, hT, hd, hr, _⟩ := hK2; exact bcell_of hd 3 _ rfl
          have hf32 : w2.frozen? ⟨d, 3, none⟩ = false := by obtain ⟨g, v, hT, hd, hr, _⟩ := hK2; exact frozen_of_row w2 d 3 _ _ hd
          have hQ2 := hK2.brk (Hk.next lst lim s).1
          have hlen := Hk.next_len lst lim s
          have hB2 := Hk.next_bd (C := 70368743915520) (lst := lst) hB hlim
          have hstep := Hk.readN_step lst lim k s HNE.out hk
          have hstop := Hk.readN_stop lst lim k s HNE.out hk
          have HS1 := Lib.hid hstep
          have HS2 := Lib.hid hstop
          clear hK hK2 hc3 hc1 hnz hnz2 hstep hstop
          obtain ⟨e, s2, hn⟩ : ∃ e s2, Hk.next lst lim s = (e, s2) := ⟨_, _, rfl⟩
          rw [hn] at hQ2 hlen hB2 ⊢
          simp only at hQ2 hlen hB2
          have HN := Lib.hid hn
          clear hn
          go_wp2
          go_roundw
          case measure =>
            rw [hQ2.left, HL.out]
            split
            · rename_i h0; have := hlen h0; omega
            · omega
          case rel =>
            refine ⟨e, s2, hQ2, ?_⟩
            by_cases h0 : e = 0
            · refine .inl ⟨h0, hB2, k - 1, by have := hlen h0; omega, ?_⟩
              have := HS1.out (by rw [HN.out]; exact h0)
              rw [HN.out] at this
              rw [← this]
              exact HK.out
            · refine .inr ⟨h0, ?_⟩
              have := HS2.out (by rw [HN.out]; exact h0)
              rw [HN.out] at this
              rw [← this]
              exact HK.out.symm
      · have he1 : ((br : Int) == 0) = false := by rw [beq_eq_false_iff_ne]; omega
        have he2 : ((br : Int) != 0) = true := by rw [bne_iff_ne]; omega
        have hdec := HDEC.out
        rw [hR] at hdec
        unfold Hk.answer at hdec
        rw [if_pos hb0] at hdec
        simp only [Prod.mk.injEq] at hdec
        obtain ⟨rfl, rfl, rfl, rfl, rfl⟩ := hdec
        clear HDEC hR hb0
        go_wp2
        go_quiet (fail)
        go_wp2
        go_ret2
        exact (hQ.drewN nq).out br
  · unfold Hk.dec at hdec
    rw [if_pos hbr] at hdec
    simp only [Prod.mk.injEq] at hdec
    obtain ⟨rfl, rfl, rfl, rfl, rfl⟩ := hdec
    have he1 : ((br : Int) == 0) = false := by rw [beq_eq_false_iff_ne]; omega
    have he2 : ((br : Int) != 0) = true := by rw [bne_iff_ne]; omega
    clear hbr hbd
    go_enter Try.func10, Try.ntmps10
    go_upto_block 0 with fail
    generalize w.alloc (.cells #[.pointer (some ⟨d, 0, none⟩), .string block, .bool false, .int .i64 0, .slice none 0 0] 61) = w1 at *
    go_wp2
    go_loopw [] (fun wr => wr = w1) (fun _ => 0)
    case atStart => rfl
    case round =>
      subst hrel
      go_wp2
      go_quiet (fail)
      go_wp2
      go_ret2
      exact (hR0.drewN nq).out br
end Go.Proofs.Ytmjibpjnhehnnaa
