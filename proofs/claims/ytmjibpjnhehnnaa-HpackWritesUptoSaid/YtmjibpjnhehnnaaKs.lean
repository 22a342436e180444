/- An encoder and a decoder in one world, and what each step does to them; the examples: awake answers true. -/
import Derived.Test.YtmjibpjnhehnnaaKq
import Derived.Test.YtmjibpjnhehnnaaKr
namespace Go.Proofs.Ytmjibpjnhehnnaa
open Go.RowKit
attribute [local go_sem ↓] Go.wp_at_zero Go.wp_at_succ

/-- Blocks that stand apart from both. -/
def Ap (w : World) (be e bd d : Nat) (ge gd : Option Nat) (bx : List (Nat × Obj)) : Prop := ∀ p ∈ bx, w.heap[p.1]? = some p.2 ∧ p.1 ≠ be ∧ p.1 ≠ e ∧ p.1 ≠ bd ∧ p.1 ≠ d ∧ ge ≠ some p.1 ∧ gd ≠ some p.1
/-- An encoder with its table, a decoder with its table, and what stands apart. -/
def ED (w0 : World) (be e bd d was least me : Nat) (le : List Tk.Fd) (lst lim br md : Nat) (ld : List Tk.Fd) (bx : List (Nat × Obj)) (w : World) : Prop :=
  ∃ ge gd, Tab w be ge le (Tk.sum le) me ∧ w.heap[e]? = some (.cells (EB be was least) 65 (0, 0)) ∧ Tab w bd gd ld (Tk.sum ld) md ∧ w.heap[d]? = some (.cells (DB bd lst lim br) 55 (0, 0)) ∧ be ≠ bd ∧ (∀ k, ge = some k → gd ≠ some k) ∧
    (w0.heap.size ≤ be ∧ w0.heap.size ≤ e ∧ w0.heap.size ≤ bd ∧ w0.heap.size ≤ d) ∧ (∀ k, ge = some k → w0.heap.size ≤ k) ∧ (∀ k, gd = some k → w0.heap.size ≤ k) ∧ Below w0.heap.size w0 w ∧ Ap w be e bd d ge gd bx
section
variable {w0 w w' : World} {be e bd d was least me lst lim br md : Nat} {le ld : List Tk.Fd} {bx : List (Nat × Obj)}
theorem ED.below (h : ED w0 be e bd d was least me le lst lim br md ld bx w) (hb : Below w.heap.size w w') : ED w0 be e bd d was least me le lst lim br md ld bx w' := by
  obtain ⟨ge, gd, hT, he, hU, hd, hne, hgg, hz, hge, hgd, hB, hx⟩ := h
  exact ⟨ge, gd, hT.below hb, (hb.block e (heap_lt he)).trans he, hU.below hb, (hb.block d (heap_lt hd)).trans hd, hne, hgg, hz, hge, hgd, hB.trans (hb.mono hB.size), fun p hp => ⟨(hb.block _ (heap_lt (hx p hp).1)).trans (hx p hp).1, (hx p hp).2⟩⟩
theorem ED.size (h : ED w0 be e bd d was least me le lst lim br md ld bx w) : w0.heap.size ≤ w.heap.size ∧ Below w0.heap.size w0 w := by
  obtain ⟨ge, gd, hT, he, hU, hd, hne, hgg, hz, hge, hgd, hB, hx⟩ := h
  exact ⟨hB.size, hB⟩
theorem only_below {S : Nat → Prop} {B : Nat} (hB : Below B w0 w) (ho : Only S w w') (hS : ∀ k, S k → B ≤ k) (hs : B ≤ w.heap.size) : Below B w0 w' :=
  ⟨ho.os.trans hB.os, ho.tape.trans hB.tape, ho.output.trans hB.output, Nat.le_trans hB.size ho.size, fun k hk => (ho.block k (by omega) (fun h => by have := hS k h; omega)).trans (hB.block k hk)⟩
/-- A new block stands apart. -/
theorem ED.box (h : ED w0 be e bd d was least me le lst lim br md ld bx w) (ob : Obj) : ED w0 be e bd d was least me le lst lim br md ld ((w.heap.size, ob) :: bx) (w.alloc ob) := by
  have hb : Below w.heap.size w (w.alloc ob) := (Below.refl _ _).alloc (Nat.le_refl _) ob
  have h2 := h.below hb
  obtain ⟨ge, gd, hT, he, hU, hd, hne, hgg, hz, hge, hgd, hB, hx⟩ := h
  have l1 := hT.lt
  have l2 := hU.lt
  have l3 := heap_lt he
  have l4 := heap_lt hd
  refine ⟨ge, gd, hT.below hb, (hb.block e l3).trans he, hU.below hb, (hb.block d l4).trans hd, hne, hgg, hz, hge, hgd, hB.trans (hb.mono hB.size), ?_⟩
  intro p hp
  rcases List.mem_cons.1 hp with rfl | hp
  · refine ⟨heap_alloc_new w ob, by simp only; omega, by simp only; omega, by simp only; omega, by simp only; omega, ?_, ?_⟩
    · intro h; have := (l1.2 _ h).1; simp only at this; omega
    · intro h; have := (l2.2 _ h).1; simp only at this; omega
  · exact ⟨(hb.block _ (heap_lt (hx p hp).1)).trans (hx p hp).1, (hx p hp).2⟩
theorem ED.drop {p : Nat × Obj} (h : ED w0 be e bd d was least me le lst lim br md ld (p :: bx) w) : ED w0 be e bd d was least me le lst lim br md ld bx w := by
  obtain ⟨ge, gd, hT, he, hU, hd, hne, hgg, hz, hge, hgd, hB, hx⟩ := h
  exact ⟨ge, gd, hT, he, hU, hd, hne, hgg, hz, hge, hgd, hB, fun q hq => hx q (List.mem_cons_of_mem _ hq)⟩
theorem ED.get {p : Nat × Obj} (h : ED w0 be e bd d was least me le lst lim br md ld (p :: bx) w) : w.heap[p.1]? = some p.2 := by
  obtain ⟨ge, gd, hT, he, hU, hd, hne, hgg, hz, hge, hgd, hB, hx⟩ := h
  exact (hx p (List.mem_cons_self ..)).1
/-- After the encoder has turned. -/
theorem ED.enc {ge gd : Option Nat} {was' least' me' : Nat} {le' : List Tk.Fd} (hT : Tab w be ge le (Tk.sum le) me) (he : w.heap[e]? = some (.cells (EB be was least) 65 (0, 0))) (hU : Tab w bd gd ld (Tk.sum ld) md) (hd : w.heap[d]? = some (.cells (DB bd lst lim br) 55 (0, 0)))
    (hne : be ≠ bd) (hgg : ∀ k, ge = some k → gd ≠ some k) (hz : w0.heap.size ≤ be ∧ w0.heap.size ≤ e ∧ w0.heap.size ≤ bd ∧ w0.heap.size ≤ d) (hge : ∀ k, ge = some k → w0.heap.size ≤ k) (hgd : ∀ k, gd = some k → w0.heap.size ≤ k) (hB : Below w0.heap.size w0 w) (hx : Ap w be e bd d ge gd bx)
    (hO : EOut w be e ge was' least' me' le' w') : ED w0 be e bd d was' least' me' le' lst lim br md ld bx w' := by
  obtain ⟨ge', hT', he', ho, hg'⟩ := hO
  obtain ⟨c1, hb1⟩ := hT.blkT
  obtain ⟨c2, hb2⟩ := hU.blkT
  have hgl := hT.lt
  have hul := hU.lt
  have hdS : ¬ ES be e ge d := by
    rintro (h | h | h)
    · exact blk_type_ne hd hb1 (by decide) h
    · exact blk_type_ne hd he (by decide) h
    · obtain ⟨cs, hc⟩ := hT.rowT d h; exact blk_type_ne hd hc (by decide) rfl
  have hbS : ¬ ES be e ge bd := by
    rintro (h | h | h)
    · exact hne h.symm
    · exact blk_type_ne hb2 he (by decide) h
    · obtain ⟨cs, hc⟩ := hT.rowT bd h; exact blk_type_ne hb2 hc (by decide) rfl
  have hgS : ∀ k, gd = some k → ¬ ES be e ge k := by
    rintro k hk (h | h | h)
    · obtain ⟨cs, hc⟩ := hU.rowT k hk; exact blk_type_ne hc hb1 (by decide) h
    · obtain ⟨cs, hc⟩ := hU.rowT k hk; exact blk_type_ne hc he (by decide) h
    · exact hgg k h hk
  refine ⟨ge', gd, hT', he', hU.only ho hbS hgS, ho.block' hd hdS, hne, ?_, hz, ?_, hgd, only_below hB ho ?_ hB.size, ?_⟩
  · intro k hk h
    rcases hg' with e1 | ⟨k', e1, hle⟩
    · exact hgg k (e1 ▸ hk) h
    · rw [hk] at e1; injection e1 with e1; have := (hul.2 k h).1; omega
  · intro k hk
    rcases hg' with e1 | ⟨k', e1, hle⟩
    · exact hge k (e1 ▸ hk)
    · rw [hk] at e1; injection e1 with e1; have := hB.size; omega
  · rintro k (h | h | h)
    · omega
    · omega
    · exact hge k h
  · intro p hp
    obtain ⟨h1, h2, h3, h4, h5, h6, h7⟩ := hx p hp
    refine ⟨ho.block' h1 ?_, h2, h3, h4, h5, ?_, h7⟩
    · rintro (h | h | h)
      · exact h2 h
      · exact h3 h
      · exact h6 h
    · intro h
      rcases hg' with e1 | ⟨k', e1, hle⟩
      · exact h6 (e1 ▸ h)
      · rw [h] at e1; injection e1 with e1; have := heap_lt h1; omega
/-- After the decoder has turned. -/
theorem ED.dec {ge gd gd' : Option Nat} {lim' br' md' : Nat} {ld' : List Tk.Fd} (hT : Tab w be ge le (Tk.sum le) me) (he : w.heap[e]? = some (.cells (EB be was least) 65 (0, 0))) (hU : Tab w bd gd ld (Tk.sum ld) md) (hd : w.heap[d]? = some (.cells (DB bd lst lim br) 55 (0, 0)))
    (hne : be ≠ bd) (hgg : ∀ k, ge = some k → gd ≠ some k) (hz : w0.heap.size ≤ be ∧ w0.heap.size ≤ e ∧ w0.heap.size ≤ bd ∧ w0.heap.size ≤ d) (hge : ∀ k, ge = some k → w0.heap.size ≤ k) (hgd : ∀ k, gd = some k → w0.heap.size ≤ k) (hB : Below w0.heap.size w0 w) (hx : Ap w be e bd d ge gd bx)
    (hU' : Tab w' bd gd' ld' (Tk.sum ld') md') (hd' : w'.heap[d]? = some (.cells (DB bd lst lim' br') 55 (0, 0))) (ho : Only (DS bd d gd) w w') (hg' : gd' = gd ∨ ∃ k, gd' = some k ∧ w.heap.size ≤ k) : ED w0 be e bd d was least me le lst lim' br' md' ld' bx w' := by
  obtain ⟨c1, hb1⟩ := hT.blkT
  obtain ⟨c2, hb2⟩ := hU.blkT
  have hgl := hT.lt
  have hul := hU.lt
  have hdS : ¬ DS bd d gd e := by
    rintro (h | h | h)
    · exact blk_type_ne he hb2 (by decide) h
    · exact blk_type_ne he hd (by decide) h
    · obtain ⟨cs, hc⟩ := hU.rowT e h; exact blk_type_ne he hc (by decide) rfl
  have hbS : ¬ DS bd d gd be := by
    rintro (h | h | h)
    · exact hne h
    · exact blk_type_ne hb1 hd (by decide) h
    · obtain ⟨cs, hc⟩ := hU.rowT be h; exact blk_type_ne hb1 hc (by decide) rfl
  have hgS : ∀ k, ge = some k → ¬ DS bd d gd k := by
    rintro k hk (h | h | h)
    · obtain ⟨cs, hc⟩ := hT.rowT k hk; exact blk_type_ne hc hb2 (by decide) h
    · obtain ⟨cs, hc⟩ := hT.rowT k hk; exact blk_type_ne hc hd (by decide) h
    · exact hgg k hk h
  refine ⟨ge, gd', hT.only ho hbS hgS, ho.block' he hdS, hU', hd', hne, ?_, hz, hge, ?_, only_below hB ho ?_ hB.size, ?_⟩
  · intro k hk h
    rcases hg' with e1 | ⟨k', e1, hle⟩
    · exact hgg k hk (e1 ▸ h)
    · rw [h] at e1; injection e1 with e1; have := (hgl.2 k hk).1; omega
  · intro k hk
    rcases hg' with e1 | ⟨k', e1, hle⟩
    · exact hgd k (e1 ▸ hk)
    · rw [hk] at e1; injection e1 with e1; have := hB.size; omega
  · rintro k (h | h | h)
    · omega
    · omega
    · exact hgd k h
  · intro p hp
    obtain ⟨h1, h2, h3, h4, h5, h6, h7⟩ := hx p hp
    refine ⟨ho.block' h1 ?_, h2, h3, h4, h5, h6, ?_⟩
    · rintro (h | h | h)
      · exact h4 h
      · exact h5 h
      · exact h7 h
    · intro h
      rcases hg' with e1 | ⟨k', e1, hle⟩
      · exact h7 (e1 ▸ h)
      · rw [h] at e1; injection e1 with e1; have := heap_lt h1; omega
/-- The same, what stands apart given. -/
theorem ED.with {ge gd gd' : Option Nat} {lim' br' md' : Nat} {ld' : List Tk.Fd} (hT : Tab w be ge le (Tk.sum le) me) (he : w.heap[e]? = some (.cells (EB be was least) 65 (0, 0))) (hU : Tab w bd gd ld (Tk.sum ld) md) (hd : w.heap[d]? = some (.cells (DB bd lst lim br) 55 (0, 0)))
    (hne : be ≠ bd) (hgg : ∀ k, ge = some k → gd ≠ some k) (hz : w0.heap.size ≤ be ∧ w0.heap.size ≤ e ∧ w0.heap.size ≤ bd ∧ w0.heap.size ≤ d) (hge : ∀ k, ge = some k → w0.heap.size ≤ k) (hgd : ∀ k, gd = some k → w0.heap.size ≤ k) (hB : Below w0.heap.size w0 w) (_hx : Ap w be e bd d ge gd bx)
    (hU' : Tab w' bd gd' ld' (Tk.sum ld') md') (hd' : w'.heap[d]? = some (.cells (DB bd lst lim' br') 55 (0, 0))) (ho : Only (DS bd d gd) w w') (hg' : gd' = gd ∨ ∃ k, gd' = some k ∧ w.heap.size ≤ k) {bx' : List (Nat × Obj)} (hx' : Ap w' be e bd d ge gd' bx') : ED w0 be e bd d was least me le lst lim' br' md' ld' bx' w' := by
  obtain ⟨c1, hb1⟩ := hT.blkT
  obtain ⟨c2, hb2⟩ := hU.blkT
  have hgl := hT.lt
  have hul := hU.lt
  have hdS : ¬ DS bd d gd e := by
    rintro (h | h | h)
    · exact blk_type_ne he hb2 (by decide) h
    · exact blk_type_ne he hd (by decide) h
    · obtain ⟨cs, hc⟩ := hU.rowT e h; exact blk_type_ne he hc (by decide) rfl
  have hbS : ¬ DS bd d gd be := by
    rintro (h | h | h)
    · exact hne h
    · exact blk_type_ne hb1 hd (by decide) h
    · obtain ⟨cs, hc⟩ := hU.rowT be h; exact blk_type_ne hb1 hc (by decide) rfl
  have hgS : ∀ k, ge = some k → ¬ DS bd d gd k := by
    rintro k hk (h | h | h)
    · obtain ⟨cs, hc⟩ := hT.rowT k hk; exact blk_type_ne hc hb2 (by decide) h
    · obtain ⟨cs, hc⟩ := hT.rowT k hk; exact blk_type_ne hc hd (by decide) h
    · exact hgg k hk h
  refine ⟨ge, gd', hT.only ho hbS hgS, ho.block' he hdS, hU', hd', hne, ?_, hz, hge, ?_, only_below hB ho ?_ hB.size, hx'⟩
  · intro k hk h
    rcases hg' with e1 | ⟨k', e1, hle⟩
    · exact hgg k hk (e1 ▸ h)
    · rw [h] at e1; injection e1 with e1; have := (hgl.2 k hk).1; omega
  · intro k hk
    rcases hg' with e1 | ⟨k', e1, hle⟩
    · exact hgd k (e1 ▸ hk)
    · rw [hk] at e1; injection e1 with e1; have := hB.size; omega
  · rintro k (h | h | h)
    · omega
    · omega
    · exact hgd k h
theorem ed_write (h : ED w0 be e bd d was least me le lst lim br md ld bx w) (A : Option Addr) (c : Nat) (fs : List Tk.Fd) (hr : w.ownsRow 0 57 2 (.slice A fs.length c) fs.length (fcells fs)) (hv : ∀ k, (Value.slice A fs.length c).ownBlock = some k → ∃ ob, (k, ob) ∈ bx)
    (hs : Tk.sum le ≤ me) (hm : me ≤ 65536) (hwas : was ≤ 65536) (hle : least ≤ 65536) (hsh : ∀ f ∈ fs, Hk.Short f) (hn : fs.length ≤ 1099511627776) (hlen : Hk.size fs + 12 ≤ 140737488355328) :
    Calls Try.prog 14 #[.pointer (some ⟨e, 0, none⟩), .slice A fs.length c] w fun en w' => en = .returned (.string (strN (Hk.write me was least fs le).1)) ∧ ED w0 be e bd d me me me (Hk.write me was least fs le).2 lst lim br md ld bx w' := by
  obtain ⟨ge, gd, hT, he, hU, hd, hne, hgg, hz, hge, hgd, hB, hx⟩ := h
  refine (write_any w be e ge was least me le A c fs hT he hr (fun k hk hg => ?_) hs hm hwas hle hsh hn hlen).mono ?_
  · obtain ⟨ob, hp⟩ := hv k hk
    exact (hx _ hp).2.2.2.2.2.1 hg
  · rintro en w' ⟨rfl, hO⟩
    exact ⟨rfl, ED.enc hT he hU hd hne hgg hz hge hgd hB hx hO⟩
/-- What reading leaves of both. -/
def EDRead (w0 w : World) (be e bd d was least me : Nat) (le : List Tk.Fd) (lst lim br' md' : Nat) (ld' : List Tk.Fd) (bx : List (Nat × Obj)) (fs : List Tk.Fd) (er : Nat) (en : Ending) (w' : World) : Prop :=
  ∃ A c, en = .returned (.tuple #[.slice A fs.length c, .int .i64 (er : Int)]) ∧ w'.ownsRow (w.heap.size + 1) 57 2 (.slice A fs.length c) fs.length (fcells fs) ∧ ED w0 be e bd d was least me le lst lim br' md' ld' bx w' ∧ ∀ k, (Value.slice A fs.length c).ownBlock = some k → ∃ ob, ED w0 be e bd d was least me le lst lim br' md' ld' ((k, ob) :: bx) w'
theorem ed_read (h : ED w0 be e bd d was least me le lst lim br md ld bx w) (block : ByteArray) (hs : Tk.sum ld ≤ md) (hm : md ≤ 65536) (hlim : lim ≤ 65536) (hz0 : block.size ≤ 268435456) (fs : List Tk.Fd) (er br' : Nat) (l' : List Tk.Fd) (m' : Nat) (hdec : Hk.dec lst lim br md ld (nats block) = (fs, er, br', l', m')) :
    Calls Try.prog 10 #[.pointer (some ⟨d, 0, none⟩), .string block] w (EDRead w0 w be e bd d was least me le lst lim br' m' l' bx fs er) := by
  obtain ⟨ge, gd, hT, he, hU, hd, hne, hgg, hz, hge, hgd, hB, hx⟩ := h
  refine (read_any w bd d gd lst lim br md ld block hU hd hs hm hlim hz0 fs er br' l' m' hdec).mono ?_
  rintro en w' ⟨v, g', rfl, hU', hd', hr', hv', ho, hg'⟩
  obtain ⟨A, c, rfl⟩ := own_slice hr'
  have hE := ED.dec hT he hU hd hne hgg hz hge hgd hB hx hU' hd' ho hg'
  refine ⟨A, c, rfl, hr', hE, fun k hk => ?_⟩
  have hlt := hr'.lt k hk
  have l1 := hT.lt
  obtain ⟨_, cs, hcs⟩ := own_type hr' k hk
  obtain ⟨c2, hb2⟩ := hU'.blkT
  refine ⟨.cells cs 57 (0, 0), ?_⟩
  have hbe : be < w.heap.size := l1.1
  have hel := heap_lt he
  -- the parts that are the same as in hE
  have hx' : Ap w' be e bd d ge g' ((k, .cells cs 57 (0, 0)) :: bx) := by
    intro p hp
    rcases List.mem_cons.1 hp with rfl | hp
    · refine ⟨hcs, by simp only; omega, by simp only; omega, blk_type_ne hcs hb2 (by decide), blk_type_ne hcs hd' (by decide), ?_, fun h => hv' k h hk⟩
      intro h; have := (l1.2 k h).1; omega
    · obtain ⟨h1, h2, h3, h4, h5, h6, h7⟩ := hx p hp
      have hp1 := heap_lt h1
      refine ⟨ho.block' h1 ?_, h2, h3, h4, h5, h6, ?_⟩
      · rintro (h | h | h)
        · exact h4 h
        · exact h5 h
        · exact h7 h
      · intro h
        rcases hg' with e1 | ⟨k', e1, hle⟩
        · exact h7 (e1 ▸ h)
        · rw [h] at e1; injection e1 with e1; omega
  exact ED.with hT he hU hd hne hgg hz hge hgd hB hx hU' hd' ho hg' hx'
theorem ed_esize (h : ED w0 be e bd d was least me le lst lim br md ld bx w) : Calls Try.prog 20 #[.pointer (some ⟨e, 0, none⟩)] w fun en w' => en = .returned (.int .i64 (Tk.sum le : Nat)) ∧ w = w' := by
  obtain ⟨ge, gd, hT, he, _⟩ := h
  exact esize_any w be e _ me ge le hT (bcell_of he 0 _ rfl)
theorem ed_dsize (h : ED w0 be e bd d was least me le lst lim br md ld bx w) : Calls Try.prog 11 #[.pointer (some ⟨d, 0, none⟩)] w fun en w' => en = .returned (.int .i64 (Tk.sum ld : Nat)) ∧ w = w' := by
  obtain ⟨ge, gd, hT, he, hU, hd, _⟩ := h
  exact dsize_any w bd d lst lim br _ md gd ld hU hd
theorem ed_elimit (h : ED w0 be e bd d was least me le lst lim br md ld bx w) (n k : Nat) (hs : Tk.sum le ≤ 65536) (hn : n ≤ 4294967295) (hk : min n 4096 = k) : Calls Try.prog 17 #[.pointer (some ⟨e, 0, none⟩), .int .i64 (n : Int)] w fun en w' => en = .returned (.int .i64 0) ∧ ED w0 be e bd d was (min least k) k (Tk.shr k le) lst lim br md ld bx w' := by
  obtain ⟨ge, gd, hT, he, hU, hd, hne, hgg, hz, hge, hgd, hB, hx⟩ := h
  refine (elimit_good w be e ge was least me n k le hT he hs hn hk).mono ?_
  rintro en w' ⟨rfl, hO⟩
  exact ⟨rfl, ED.enc hT he hU hd hne hgg hz hge hgd hB hx hO⟩
theorem ed_dlimit (h : ED w0 be e bd d was least me le lst lim br md ld bx w) (n : Nat) (hn : n ≤ 65536) : Calls Try.prog 23 #[.pointer (some ⟨d, 0, none⟩), .int .i64 (n : Int)] w fun en w' => en = .returned (.int .i64 0) ∧ ED w0 be e bd d was least me le lst n br md ld bx w' := by
  obtain ⟨ge, gd, hT, he, hU, hd, hne, hgg, hz, hge, hgd, hB, hx⟩ := h
  refine (dlimit_good w bd d lst lim br n hd hn).mono ?_
  rintro en w' ⟨rfl, hd', ho⟩
  obtain ⟨c2, hb2⟩ := hU.blkT
  have hU' : Tab w' bd gd ld (Tk.sum ld) md := hU.only ho (blk_type_ne hb2 hd (by decide)) (fun k hk h => by obtain ⟨cs, hc⟩ := hU.rowT k hk; exact blk_type_ne hc hd (by decide) h)
  exact ⟨rfl, ED.dec hT he hU hd hne hgg hz hge hgd hB hx hU' hd' (ho.mono (fun k _ h => .inr (.inl h))) (.inl rfl)⟩
end
/-- Both, new. -/
theorem ED.new {w w1 w2 : World} {e d lst : Nat} (hT : Tab w1 (w.heap.size + 1) none [] 0 4096) (he : w1.heap[e]? = some (.cells (EB (w.heap.size + 1) 4096 4096) 65 (0, 0))) (he1 : w.heap.size + 1 < e) (hb1 : Below w.heap.size w w1)
    (hU : Tab w2 (w1.heap.size + 1) none [] 0 4096) (hd : w2.heap[d]? = some (.cells (DB (w1.heap.size + 1) lst 4096 0) 55 (0, 0))) (hd1 : w1.heap.size + 1 < d) (hb2 : Below w1.heap.size w1 w2) :
    ED w (w.heap.size + 1) e (w1.heap.size + 1) d 4096 4096 4096 [] lst 4096 0 4096 [] [] w2 := by
  have h1 := hT.lt
  have h2 := heap_lt he
  exact ⟨none, none, hT.below hb2, (hb2.block e h2).trans he, hU, hd, by omega, (fun k h => by cases h), ⟨by omega, by omega, by omega, by omega⟩, (fun k h => by cases h), (fun k h => by cases h), hb1.trans (hb2.mono hb1.size), (fun p hp => by cases hp)⟩

theorem own_of_heap {w w' : World} {B g n c : Nat} {fs : List Tk.Fd} (h : w.ownsRow B 57 2 (.slice (some ⟨g, 0, none⟩) n c) n (fcells fs)) (hh : w'.heap[g]? = w.heap[g]?) : w'.ownsRow 0 57 2 (.slice (some ⟨g, 0, none⟩) n c) n (fcells fs) := by
  refine ⟨h.1, ?_⟩
  rcases h.2 with h2 | ⟨g', cap, cur, hv, _, hb, r⟩
  · exact .inl h2
  · injection hv with e1 _ e3
    injection e1 with e1
    injection e1 with e1
    subst e1
    subst e3
    exact .inr ⟨g, c, cur, rfl, Nat.zero_le _, hh.trans hb, r⟩
theorem al_row {w : World} {k : Nat} (h : w.heap[k]? = some (.cells #[.string ⟨#[58, 109, 101, 116, 104, 111, 100]⟩, .string ⟨#[71, 69, 84]⟩, .string ⟨#[58, 115, 99, 104, 101, 109, 101]⟩, .string ⟨#[104, 116, 116, 112]⟩, .string ⟨#[58, 112, 97, 116, 104]⟩, .string ⟨#[47]⟩, .string ⟨#[58, 97, 117, 116, 104, 111, 114, 105, 116, 121]⟩, .string ⟨#[119, 119, 119, 46, 101, 120, 97, 109, 112, 108, 101, 46, 99, 111, 109]⟩] 57 (0, 0))) : w.ownsRow 0 57 2 (.slice (some ⟨k, 0, none⟩) 4 4) 4 (fcells Hk.al) :=
  ⟨rfl, .inr ⟨k, 4, _, rfl, Nat.zero_le _, h, Nat.le_refl _, by unfold maxLen; omega, rfl, rfl⟩⟩
theorem ab_text : strN Hk.ab = ⟨#[130, 134, 132, 65, 140, 241, 227, 194, 229, 242, 58, 107, 160, 171, 144, 244, 255]⟩ := by decide +kernel
theorem ab_nats : nats ⟨#[130, 134, 132, 65, 140, 241, 227, 194, 229, 242, 58, 107, 160, 171, 144, 244, 255]⟩ = Hk.ab := by decide +kernel
theorem al_short : ∀ f ∈ Hk.al, Hk.Short f := by
  intro f hf
  have : ∀ f ∈ Hk.al, f.1.size < 268435456 ∧ f.2.size < 268435456 := by decide +kernel
  exact this f hf
set_option maxRecDepth 100000 in
set_option maxHeartbeats 8000000 in
theorem awake_true (w : World) : Calls Try.prog 9 #[] w fun e w' => e = .returned (.bool true) ∧ Below w.heap.size w w' := by
  go_enter Try.func9, Try.ntmps9
  go_wp2_with fail
  refine (newEnc_any w).mono ?_
  rintro en w1 ⟨e, rfl, he1, hT1, hE1, hb1⟩
  go_wp2_with fail
  refine (newDec_good w1 1000 (by omega)).mono ?_
  rintro en w2 ⟨d, rfl, hd1, hU2, hD2, hb2⟩
  have hED := ED.new hT1 hE1 he1 hb1 hU2 hD2 hd1 hb2
  clear hT1 hE1 he1 hb1 hU2 hD2 hd1 hb2
  generalize w.heap.size + 1 = be at *
  generalize w1.heap.size + 1 = bd at *
  go_wp2_with fail
  refine (lfield_any w2 _ _).mono ?_
  rintro en w3 ⟨rfl, hb⟩
  have hED3 := hED.below hb
  clear hED hb
  go_wp2_with fail
  refine (lfield_any w3 _ _).mono ?_
  rintro en w4 ⟨rfl, hb⟩
  have hED4 := hED3.below hb
  clear hED3 hb
  go_wp2_with fail
  refine (lfield_any w4 _ _).mono ?_
  rintro en w5 ⟨rfl, hb⟩
  have hED5 := hED4.below hb
  clear hED4 hb
  go_wp2_with fail
  refine (lfield_any w5 _ _).mono ?_
  rintro en w6 ⟨rfl, hb⟩
  have hED6 := hED5.below hb
  clear hED5 hb
  go_wp2_with fail
  have hED7 := hED6.box (.cells #[.string ⟨#[58, 109, 101, 116, 104, 111, 100]⟩, .string ⟨#[71, 69, 84]⟩, .string ⟨#[58, 115, 99, 104, 101, 109, 101]⟩, .string ⟨#[104, 116, 116, 112]⟩, .string ⟨#[58, 112, 97, 116, 104]⟩, .string ⟨#[47]⟩, .string ⟨#[58, 97, 117, 116, 104, 111, 114, 105, 116, 121]⟩, .string ⟨#[119, 119, 119, 46, 101, 120, 97, 109, 112, 108, 101, 46, 99, 111, 109]⟩] 57 (0, 0))
  clear hED6
  generalize w6.alloc (.cells #[.string ⟨#[58, 109, 101, 116, 104, 111, 100]⟩, .string ⟨#[71, 69, 84]⟩, .string ⟨#[58, 115, 99, 104, 101, 109, 101]⟩, .string ⟨#[104, 116, 116, 112]⟩, .string ⟨#[58, 112, 97, 116, 104]⟩, .string ⟨#[47]⟩, .string ⟨#[58, 97, 117, 116, 104, 111, 114, 105, 116, 121]⟩, .string ⟨#[119, 119, 119, 46, 101, 120, 97, 109, 112, 108, 101, 46, 99, 111, 109]⟩] 57) = w7 at *
  generalize w6.heap.size = kL at *
  have hW := ed_write hED7 (some ⟨kL, 0, none⟩) 4 Hk.al (al_row hED7.get) (fun k hk => ⟨_, by have : k = kL := (by simpa [Value.ownBlock] using hk.symm); subst this; exact List.mem_cons_self ..⟩) (Nat.zero_le _) (by omega) (by omega) (by omega) al_short (by decide) (by decide +kernel)
  rw [Hk.awr, show Hk.al.length = 4 from rfl] at hW
  have HW := Lib.hid hW
  clear hW hED7
  refine HW.out.mono ?_
  rintro en w8 ⟨rfl, hED8⟩
  rw [show (Hk.ab, [Hk.ax]).1 = Hk.ab from rfl, ab_text]
  have hR := ed_read hED8 ⟨#[130, 134, 132, 65, 140, 241, 227, 194, 229, 242, 58, 107, 160, 171, 144, 244, 255]⟩ (Nat.zero_le _) (by omega) (by omega) (by decide) Hk.al 0 0 [Hk.ax] 4096 (by rw [ab_nats]; exact Hk.ard)
  have HR := Lib.hid hR
  clear hR hED8 HW
  go_wp2_with fail
  refine HR.out.mono ?_
  rintro en w9 ⟨A9, c9, rfl, hr9, _, hE9⟩
  rw [show Hk.al.length = 4 from rfl] at hr9 hE9 ⊢
  obtain ⟨g9, hA9, _, _, _⟩ := own_fields hr9 (by omega)
  subst hA9
  obtain ⟨ob9, hED9⟩ := hE9 g9 rfl
  have hg9 := hED9.get
  have hR2 := ed_read hED9 ⟨#[128]⟩ (by decide +kernel) (by omega) (by omega) (by decide) [] 50 50 [Hk.ax] 4096 Hk.ard2
  have HR2 := Lib.hid hR2
  have HR9 := Lib.hid hr9
  clear hR2 hED9 HR hE9 hr9
  go_wp2_with fail
  refine HR2.out.mono ?_
  rintro en w10 ⟨A10, c10, rfl, _, hED10, _⟩
  have hR3 := ed_read hED10 ⟨#[130]⟩ (by decide +kernel) (by omega) (by omega) (by decide) [] 50 50 [Hk.ax] 4096 Hk.ard3
  have HR3 := Lib.hid hR3
  clear hR3 hED10 HR2
  go_wp2_with fail
  refine HR3.out.mono ?_
  rintro en w11 ⟨A11, c11, rfl, _, hED11, _⟩
  clear HR3
  go_wp2_with fail
  have h57 : Tk.sum [Hk.ax] = 57 := by decide
  have hS := ed_esize hED11
  have hS2 := ed_dsize hED11
  rw [h57] at hS hS2
  have HS := Lib.hid hS
  have HS2 := Lib.hid hS2
  have hr9 : w11.ownsRow 0 57 2 (.slice (some ⟨g9, 0, none⟩) 4 c9) 4 (fcells Hk.al) := own_of_heap HR9.out (hED11.get.trans hg9.symm)
  have HSM := Lib.hid (same_true w11 (some ⟨kL, 0, none⟩) (some ⟨g9, 0, none⟩) 4 4 c9 Hk.al (FRow.own (al_row hED11.drop.get)) (FRow.own hr9) (by omega))
  clear hS hS2 h57 hr9 hg9
  refine HS.out.mono ?_
  rintro en wq ⟨rfl, rfl⟩
  go_wp2_with fail
  refine HS2.out.mono ?_
  rintro en wq ⟨rfl, rfl⟩
  go_wp2_with fail
  refine HSM.out.mono ?_
  rintro en w12 ⟨rfl, hb12⟩
  go_wp2
  go_ret
  exact ⟨rfl, (hED11.below hb12).size.2⟩
end Go.Proofs.Ytmjibpjnhehnnaa
