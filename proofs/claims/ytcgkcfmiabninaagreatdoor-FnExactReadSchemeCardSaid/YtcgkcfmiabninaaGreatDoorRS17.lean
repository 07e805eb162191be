/-
  RS: texts LawRReadScheme, RDoor, one behind the other. No condition but what each says.
-/
import Derived.Test.YtcgkcfmiabninaaGreatDoorRS16
import Derived.ProofKit
import Derived.LaidMore
import Derived.Stop.Joined
import Derived.Lib.LaidTab
import Derived.Stop.LaidErr
import Derived.Lay
import Derived.HandedShaped
import Derived.SevenTiedAt
/-
  The statement on ReadScheme, walked. No condition but what lies laid.
-/
namespace Go.Proofs.YtcgkcfmiabninaaGreatDoor
open Go.RowKit
set_option maxHeartbeats 400000

set_option maxHeartbeats 8000000 in
set_option maxRecDepth 100000 in
theorem FnExactReadScheme_walk (s : ByteArray) (w : World) (hs : s.size ≤ 9223372036854775807) (L : LibW w) :
    Calls Tryz.prog 3 #[.string s] w fun r w' => r = .returned (.bool true) ∧ Below w.heap.size w w' := by
  by_cases hb : s.size ≤ 1048576
  · skip
    have HS := fun W => specReadScheme_any s W hb
    have HI := fun W (L : LibW W) => implReadScheme_any s W hb L
    have hR := readX_len s hb
    generalize readX s = R at HS HI hR
    obtain ⟨X, FR, code⟩ := R
    simp only at HS HI hR
    obtain ⟨FS, hFS⟩ : ∃ FS, FS = fL FR := ⟨_, rfl⟩
    have hFl : FS.length ≤ 20 := by rw [hFS, fL_len]; exact hR.2.2.2
    have cS : ∀ W : World, Calls Tryz.prog 5 #[.string s] W (fun r w2 => ∃ (A1 : Option Addr) (n1 c1 : Nat) (A2 : Option Addr) (n2 c2 : Nat) (A3 : Option Addr) (n3 c3 : Nat) (B : Option Addr) (m d : Nat), r = .returned (.tuple #[.agg #[.slice A1 n1 c1, .slice A2 n2 c2, .slice A3 n3 c3], .slice B m d, .int .i64 code]) ∧ OwnX w2 W.heap.size ⟨A1, n1, c1, A2, n2, c2, A3, n3, c3⟩ X ∧ w2.ownsRow W.heap.size 42 2 (.slice B m d) m (FS.flatMap encFault) ∧ (∀ b, (Value.slice B m d).ownBlock = some b → ¬ SV.has ⟨A1, n1, c1, A2, n2, c2, A3, n3, c3⟩ b) ∧ Below W.heap.size W w2) := fun W => (HS W).mono (by
      rintro r w2 ⟨s2, B, m, d, h1, h2, h3, h4, h5⟩
      obtain ⟨A1, n1, c1, A2, n2, c2, A3, n3, c3⟩ := s2
      exact ⟨A1, n1, c1, A2, n2, c2, A3, n3, c3, B, m, d, h1, h2, by rw [hFS]; exact h3, h4, h5⟩)
    have cI : ∀ W : World, LibW W → Calls Tryz.prog 6 #[.string s] W (fun r w2 => ∃ (A1 : Option Addr) (n1 c1 : Nat) (A2 : Option Addr) (n2 c2 : Nat) (A3 : Option Addr) (n3 c3 : Nat) (B : Option Addr) (m d : Nat), r = .returned (.tuple #[.agg #[.slice A1 n1 c1, .slice A2 n2 c2, .slice A3 n3 c3], .slice B m d, .int .i64 code]) ∧ OwnX w2 W.heap.size ⟨A1, n1, c1, A2, n2, c2, A3, n3, c3⟩ X ∧ w2.ownsRow W.heap.size 42 2 (.slice B m d) m (FS.flatMap encFault) ∧ (∀ b, (Value.slice B m d).ownBlock = some b → ¬ SV.has ⟨A1, n1, c1, A2, n2, c2, A3, n3, c3⟩ b) ∧ Below W.heap.size W w2) := fun W LW => (HI W LW).mono (by
      rintro r w2 ⟨s2, B, m, d, h1, h2, h3, h4, h5⟩
      obtain ⟨A1, n1, c1, A2, n2, c2, A3, n3, c3⟩ := s2
      exact ⟨A1, n1, c1, A2, n2, c2, A3, n3, c3, B, m, d, h1, h2, by rw [hFS]; exact h3, h4, h5⟩)
    have hX : X.st.length ≤ 2000000 ∧ X.rm.length ≤ 2000000 ∧ X.wy.length ≤ 2000000 := ⟨by omega, by omega, by omega⟩
    have hLR0 : 0 ≤ lenX X := by simp only [lenX]; omega
    have hLR1 : lenX X ≤ 2000000 := by simp only [lenX]; omega
    have HX := hid hX
    clear HS HI hFS hX hR
    have cQ := fun (A1 : Option Addr) (n1 c1 : Nat) (A2 : Option Addr) (n2 c2 : Nat) (A3 : Option Addr) (n3 c3 : Nat) (B1 : Option Addr) (m1 d1 : Nat) (B2 : Option Addr) (m2 d2 : Nat) (B3 : Option Addr) (m3 d3 : Nat) W (h : n1 ≤ 2000000 ∧ n2 ≤ 2000000 ∧ n3 ≤ 2000000) h1 h2 => eqScheme_yes ⟨A1, n1, c1, A2, n2, c2, A3, n3, c3⟩ ⟨B1, m1, d1, B2, m2, d2, B3, m3, d3⟩ X W W.heap.size (Nat.le_refl _) h.1 h.2.1 h.2.2 h1 h2
    simp only [SV.v] at cQ
    have cM := fun lo (A1 : Option Addr) (n1 c1 : Nat) (A2 : Option Addr) (n2 c2 : Nat) (A3 : Option Addr) (n3 c3 : Nat) W (h : n1 ≤ 2000000 ∧ n2 ≤ 2000000 ∧ n3 ≤ 2000000) ho => markSchemeK_any lo ⟨A1, n1, c1, A2, n2, c2, A3, n3, c3⟩ X 1 W h.1 h.2.1 h.2.2 (by omega) (by omega) ho
    simp only [SV.v] at cM
    have cH := fun (A1 : Option Addr) (n1 c1 : Nat) (A2 : Option Addr) (n2 c2 : Nat) (A3 : Option Addr) (n3 c3 : Nat) W (h : n1 ≤ 2000000 ∧ n2 ≤ 2000000 ∧ n3 ≤ 2000000) (q1 : Hid (X.st.length = n1)) (q2 : Hid (X.rm.length = n2)) (q3 : Hid (X.wy.length = n3)) h1 => heldScheme_any ⟨A1, n1, c1, A2, n2, c2, A3, n3, c3⟩ X 1 W W.heap.size (Nat.le_refl _) h.1 h.2.1 h.2.2 q1 q2 q3 (by omega) (by omega) h1
    simp only [SV.v] at cH
    have hb1 : (s.size : Int) ≤ 1048576 := by omega
    go_enter Tryz.func3, Tryz.ntmps3
    go_wp2_with fail
    refine (cS _).mono ?_
    rintro r w1 ⟨Aw1, nw1, cw1, Aw2, nw2, cw2, Aw3, nw3, cw3, Bw, mw, dw, rfl, xw, fw, apw, b9⟩
    have ew1 := b9
    have zw1 := b9.size
    clear b9
    have Qw : Hid (X.st.length = nw1) ∧ Hid (X.rm.length = nw2) ∧ Hid (X.wy.length = nw3) := ⟨(own_len encS_len (by omega) xw.st).symm, (own_len encS_len (by omega) xw.rm).symm, (own_len encWay_len (by omega) xw.wy).symm⟩
    have Nw : nw1 ≤ 2000000 ∧ nw2 ≤ 2000000 ∧ nw3 ≤ 2000000 := by have := HX.out; obtain ⟨q1, q2, q3⟩ := Qw; have q1 := q1.out; have q2 := q2.out; have q3 := q3.out; omega
    have Mw : mw ≤ 20 := by have := own_len encFault_len (by omega) fw; omega
    have QHw := hid Qw
    have NHw := hid Nw
    have PHw := hid apw
    clear Qw Nw apw
    have Lw := hid (fun (b : Nat) (hb : SV.has ⟨Aw1, nw1, cw1, Aw2, nw2, cw2, Aw3, nw3, cw3⟩ b) => xw.has_lt hb)
    have Kw := hid fw.lt
    obtain ⟨W2, hW9⟩ : ∃ W2, W2 = w1.alloc (.cells #[.slice Aw1 nw1 cw1, .slice Aw2 nw2 cw2, .slice Aw3 nw3 cw3] 25) := ⟨_, rfl⟩
    have a9 : Below w1.heap.size w1 W2 := by rw [hW9]; exact (Below.refl _ _).alloc (Nat.le_refl _) _
    have v0 : W2.cell? ⟨w1.heap.size, 0, none⟩ = some (.slice Aw1 nw1 cw1) := by rw [hW9]; exact (World.cell?_alloc_at _ _ _ _ rfl).trans rfl
    have v1 : W2.cell? ⟨w1.heap.size, 1, none⟩ = some (.slice Aw2 nw2 cw2) := by rw [hW9]; exact (World.cell?_alloc_at _ _ _ _ rfl).trans rfl
    have v2 : W2.cell? ⟨w1.heap.size, 2, none⟩ = some (.slice Aw3 nw3 cw3) := by rw [hW9]; exact (World.cell?_alloc_at _ _ _ _ rfl).trans rfl
    have zzW2 : w1.heap.size < W2.heap.size := World.block_lt_of_cell? _ _ v0
    have HWW2 := hid hW9
    have AW2 := hid a9
    clear hW9 a9
    go_wp2_with fail
    rw [← HWW2.out]
    have a9 := AW2.out
    replace xw := xw.below a9
    replace fw := own_below fw a9
    have eW2 := ew1.trans (a9.mono ew1.size)
    clear a9 ew1
    refine (cI _ (L.below eW2)).mono ?_
    rintro r w3 ⟨Ag1, ng1, cg1, Ag2, ng2, cg2, Ag3, ng3, cg3, Bg, mg, dg, rfl, xg, fg, apg, b9⟩
    replace v0 := below_cell v0 b9
    replace v1 := below_cell v1 b9
    replace v2 := below_cell v2 b9
    replace xw := xw.below b9
    replace fw := own_below fw b9
    have ew3 := eW2.trans (b9.mono eW2.size)
    clear b9 eW2
    have Qg : Hid (X.st.length = ng1) ∧ Hid (X.rm.length = ng2) ∧ Hid (X.wy.length = ng3) := ⟨(own_len encS_len (by omega) xg.st).symm, (own_len encS_len (by omega) xg.rm).symm, (own_len encWay_len (by omega) xg.wy).symm⟩
    have Ng : ng1 ≤ 2000000 ∧ ng2 ≤ 2000000 ∧ ng3 ≤ 2000000 := by have := HX.out; obtain ⟨q1, q2, q3⟩ := Qg; have q1 := q1.out; have q2 := q2.out; have q3 := q3.out; omega
    have Mg : mg ≤ 20 := by have := own_len encFault_len (by omega) fg; omega
    have QHg := hid Qg
    have NHg := hid Ng
    have PHg := hid apg
    clear Qg Ng apg
    have Lg := hid (fun (b : Nat) (hb : SV.has ⟨Ag1, ng1, cg1, Ag2, ng2, cg2, Ag3, ng3, cg3⟩ b) => xg.has_lt hb)
    have Kg := hid fg.lt
    obtain ⟨W4, hW9⟩ : ∃ W4, W4 = w3.alloc (.cells #[.slice Ag1 ng1 cg1, .slice Ag2 ng2 cg2, .slice Ag3 ng3 cg3] 25) := ⟨_, rfl⟩
    have a9 : Below w3.heap.size w3 W4 := by rw [hW9]; exact (Below.refl _ _).alloc (Nat.le_refl _) _
    have u0 : W4.cell? ⟨w3.heap.size, 0, none⟩ = some (.slice Ag1 ng1 cg1) := by rw [hW9]; exact (World.cell?_alloc_at _ _ _ _ rfl).trans rfl
    have u1 : W4.cell? ⟨w3.heap.size, 1, none⟩ = some (.slice Ag2 ng2 cg2) := by rw [hW9]; exact (World.cell?_alloc_at _ _ _ _ rfl).trans rfl
    have u2 : W4.cell? ⟨w3.heap.size, 2, none⟩ = some (.slice Ag3 ng3 cg3) := by rw [hW9]; exact (World.cell?_alloc_at _ _ _ _ rfl).trans rfl
    have zzW4 : w3.heap.size < W4.heap.size := World.block_lt_of_cell? _ _ u0
    have HWW4 := hid hW9
    have AW4 := hid a9
    clear hW9 a9
    have lt_v0 := World.block_lt_of_cell? _ _ v0
    simp only at lt_v0
    go_wp2_with fail
    rw [← HWW4.out]
    clear lt_v0
    have a9 := AW4.out
    replace v0 := below_cell v0 a9
    replace v1 := below_cell v1 a9
    replace v2 := below_cell v2 a9
    replace xw := xw.below a9
    replace fw := own_below fw a9
    replace xg := xg.below a9
    replace fg := own_below fg a9
    have eW4 := ew3.trans (a9.mono ew3.size)
    clear a9 ew3
    (with_reducible refine (cQ  _ _ _ _ _ _ _ _ _ _ _ _ _ _ _ _ _ _ _ NHg.out xg.sl xw.sl).mono ?_)
    rintro r w5 ⟨rfl, b9⟩
    replace v0 := below_cell v0 b9
    replace v1 := below_cell v1 b9
    replace v2 := below_cell v2 b9
    replace u0 := below_cell u0 b9
    replace u1 := below_cell u1 b9
    replace u2 := below_cell u2 b9
    replace xw := xw.below b9
    replace fw := own_below fw b9
    replace xg := xg.below b9
    replace fg := own_below fg b9
    have ew5 := eW4.trans (b9.mono eW4.size)
    clear b9 eW4
    have lt_v0 := World.block_lt_of_cell? _ _ v0
    simp only at lt_v0
    have lt_u0 := World.block_lt_of_cell? _ _ u0
    simp only at lt_u0
    go_wp2_with fail
    clear lt_v0
    clear lt_u0
    refine (eqFaultS_yes _ _ _ _ _ _ _ _ (Nat.le_refl _) FS (by omega) (own_sl encFault_len (by omega) fg) (own_sl encFault_len (by omega) fw)).mono ?_
    rintro r w6 ⟨rfl, b9⟩
    replace v0 := below_cell v0 b9
    replace v1 := below_cell v1 b9
    replace v2 := below_cell v2 b9
    replace u0 := below_cell u0 b9
    replace u1 := below_cell u1 b9
    replace u2 := below_cell u2 b9
    replace xw := xw.below b9
    replace fw := own_below fw b9
    replace xg := xg.below b9
    replace fg := own_below fg b9
    have ew6 := ew5.trans (b9.mono ew5.size)
    clear b9 ew5
    have lt_v0 := World.block_lt_of_cell? _ _ v0
    simp only at lt_v0
    have lt_u0 := World.block_lt_of_cell? _ _ u0
    simp only at lt_u0
    go_wp2_with fail
    clear lt_v0
    clear lt_u0
    (with_reducible refine (cM _ _ _ _ _ _ _ _ _ _ _ NHg.out xg).mono ?_)
    rintro r w7 ⟨rfl, xm, y7⟩
    have lw := Lw.out
    have lg := Lg.out
    have kw := Kw.out
    have kg := Kg.out
    replace v0 := y7.cell v0 (fun e => by have := lg _ e; simp only at this; omega)
    replace v1 := y7.cell v1 (fun e => by have := lg _ e; simp only at this; omega)
    replace v2 := y7.cell v2 (fun e => by have := lg _ e; simp only at this; omega)
    replace u0 := y7.cell u0 (fun e => by have := lg _ e; simp only at this; omega)
    replace u1 := y7.cell u1 (fun e => by have := lg _ e; simp only at this; omega)
    replace u2 := y7.cell u2 (fun e => by have := lg _ e; simp only at this; omega)
    replace xw := xw.keep y7 (fun b hb e => by have := lw b hb; have := lg b e; omega)
    replace fw := y7.own fw (fun b hb e => by have := kw b hb; have := lg b e; omega)
    replace fg := y7.own fg (fun b hb e => PHg.out b hb e)
    have ew7 := y7.toBelow ew6 (fun b hb => by have := (lg b hb).1; have := zzW2; omega) ew6.size
    clear y7 xg ew6 lw lg kw kg
    have zlw := ew7.size
    have lt_v0 := World.block_lt_of_cell? _ _ v0
    simp only at lt_v0
    have lt_u0 := World.block_lt_of_cell? _ _ u0
    simp only at lt_u0
    go_wp2_with fail
    clear lt_v0
    clear lt_u0
    refine (markFaultS_any _ _ _ _ _ _ _ (by omega) (by omega) (by omega) fg).mono ?_
    rintro r w8 ⟨rfl, fm, y8⟩
    replace y8 := Keep.ofGrown (p := fun b => (Value.slice Bg mg dg).ownBlock = some b) y8 (fun b hb => hb)
    have lw := Lw.out
    have lg := Lg.out
    have kw := Kw.out
    have kg := Kg.out
    replace v0 := y8.cell v0 (fun e => by have := kg _ e; simp only at this; omega)
    replace v1 := y8.cell v1 (fun e => by have := kg _ e; simp only at this; omega)
    replace v2 := y8.cell v2 (fun e => by have := kg _ e; simp only at this; omega)
    replace u0 := y8.cell u0 (fun e => by have := kg _ e; simp only at this; omega)
    replace u1 := y8.cell u1 (fun e => by have := kg _ e; simp only at this; omega)
    replace u2 := y8.cell u2 (fun e => by have := kg _ e; simp only at this; omega)
    replace xw := xw.keep y8 (fun b hb e => by have := lw b hb; have := kg b e; omega)
    replace fw := y8.own fw (fun b hb e => by have := kw b hb; have := kg b e; omega)
    replace xm := xm.keep y8 (fun b hb e => PHg.out b e hb)
    have ew8 := y8.toBelow ew7 (fun b hb => by have := (kg b hb).1; have := zzW2; omega) ew7.size
    clear y8 fg ew7 lw lg kw kg
    have lt_v0 := World.block_lt_of_cell? _ _ v0
    simp only at lt_v0
    have lt_u0 := World.block_lt_of_cell? _ _ u0
    simp only at lt_u0
    go_wp2_with fail
    clear lt_v0
    clear lt_u0
    (with_reducible refine (cH  _ _ _ _ _ _ _ _ _ _ NHg.out QHg.out.1 QHg.out.2.1 QHg.out.2.2 xm.sl).mono ?_)
    rintro r w9 ⟨rfl, b9⟩
    replace v0 := below_cell v0 b9
    replace v1 := below_cell v1 b9
    replace v2 := below_cell v2 b9
    replace u0 := below_cell u0 b9
    replace u1 := below_cell u1 b9
    replace u2 := below_cell u2 b9
    replace xw := xw.below b9
    replace fw := own_below fw b9
    replace xm := xm.below b9
    replace fm := own_below fm b9
    have ew9 := ew8.trans (b9.mono ew8.size)
    clear b9 ew8
    have lt_v0 := World.block_lt_of_cell? _ _ v0
    simp only at lt_v0
    have lt_u0 := World.block_lt_of_cell? _ _ u0
    simp only at lt_u0
    go_wp2_with fail
    clear lt_v0
    clear lt_u0
    refine (heldFaultS_any _ _ _ _ _ _ (by omega) (by omega) (by omega) (own_sl encFault_len (by omega) fm)).mono ?_
    rintro r w10 ⟨rfl, b9⟩
    replace v0 := below_cell v0 b9
    replace v1 := below_cell v1 b9
    replace v2 := below_cell v2 b9
    replace u0 := below_cell u0 b9
    replace u1 := below_cell u1 b9
    replace u2 := below_cell u2 b9
    replace xw := xw.below b9
    replace fw := own_below fw b9
    replace xm := xm.below b9
    replace fm := own_below fm b9
    have ew10 := ew9.trans (b9.mono ew9.size)
    clear b9 ew9
    have lt_v0 := World.block_lt_of_cell? _ _ v0
    simp only at lt_v0
    have lt_u0 := World.block_lt_of_cell? _ _ u0
    simp only at lt_u0
    have LZ := L.below ew10
    go_wp2_with fail
    clear lt_v0
    clear lt_u0
    refine (cI _ LZ).mono ?_
    rintro r w11 ⟨Ah1, nh1, ch1, Ah2, nh2, ch2, Ah3, nh3, ch3, Bh, mh, dh, rfl, xh, fh, aph, b9⟩
    clear LZ
    replace v0 := below_cell v0 b9
    replace v1 := below_cell v1 b9
    replace v2 := below_cell v2 b9
    replace u0 := below_cell u0 b9
    replace u1 := below_cell u1 b9
    replace u2 := below_cell u2 b9
    replace xw := xw.below b9
    replace fw := own_below fw b9
    replace xm := xm.below b9
    replace fm := own_below fm b9
    have ew11 := ew10.trans (b9.mono ew10.size)
    clear b9 ew10
    have Qh : Hid (X.st.length = nh1) ∧ Hid (X.rm.length = nh2) ∧ Hid (X.wy.length = nh3) := ⟨(own_len encS_len (by omega) xh.st).symm, (own_len encS_len (by omega) xh.rm).symm, (own_len encWay_len (by omega) xh.wy).symm⟩
    have Nh : nh1 ≤ 2000000 ∧ nh2 ≤ 2000000 ∧ nh3 ≤ 2000000 := by have := HX.out; obtain ⟨q1, q2, q3⟩ := Qh; have q1 := q1.out; have q2 := q2.out; have q3 := q3.out; omega
    have Mh : mh ≤ 20 := by have := own_len encFault_len (by omega) fh; omega
    have NHh := hid Nh
    clear Qh Nh aph
    obtain ⟨W12, hW9⟩ : ∃ W12, W12 = w11.alloc (.cells #[.slice Ah1 nh1 ch1, .slice Ah2 nh2 ch2, .slice Ah3 nh3 ch3] 25) := ⟨_, rfl⟩
    have a9 : Below w11.heap.size w11 W12 := by rw [hW9]; exact (Below.refl _ _).alloc (Nat.le_refl _) _
    have t0 : W12.cell? ⟨w11.heap.size, 0, none⟩ = some (.slice Ah1 nh1 ch1) := by rw [hW9]; exact (World.cell?_alloc_at _ _ _ _ rfl).trans rfl
    have t1 : W12.cell? ⟨w11.heap.size, 1, none⟩ = some (.slice Ah2 nh2 ch2) := by rw [hW9]; exact (World.cell?_alloc_at _ _ _ _ rfl).trans rfl
    have t2 : W12.cell? ⟨w11.heap.size, 2, none⟩ = some (.slice Ah3 nh3 ch3) := by rw [hW9]; exact (World.cell?_alloc_at _ _ _ _ rfl).trans rfl
    have zzW12 : w11.heap.size < W12.heap.size := World.block_lt_of_cell? _ _ t0
    have HWW12 := hid hW9
    have AW12 := hid a9
    clear hW9 a9
    have lt_v0 := World.block_lt_of_cell? _ _ v0
    simp only at lt_v0
    have lt_u0 := World.block_lt_of_cell? _ _ u0
    simp only at lt_u0
    go_wp2_with fail
    rw [← HWW12.out]
    clear lt_v0
    clear lt_u0
    have a9 := AW12.out
    replace v0 := below_cell v0 a9
    replace v1 := below_cell v1 a9
    replace v2 := below_cell v2 a9
    replace u0 := below_cell u0 a9
    replace u1 := below_cell u1 a9
    replace u2 := below_cell u2 a9
    replace xw := xw.below a9
    replace fw := own_below fw a9
    replace xm := xm.below a9
    replace fm := own_below fm a9
    replace xh := xh.below a9
    replace fh := own_below fh a9
    have eW12 := ew11.trans (a9.mono ew11.size)
    clear a9 ew11
    (with_reducible refine (cQ  _ _ _ _ _ _ _ _ _ _ _ _ _ _ _ _ _ _ _ NHh.out xh.sl xw.sl).mono ?_)
    rintro r w13 ⟨rfl, b9⟩
    replace v0 := below_cell v0 b9
    replace v1 := below_cell v1 b9
    replace v2 := below_cell v2 b9
    replace u0 := below_cell u0 b9
    replace u1 := below_cell u1 b9
    replace u2 := below_cell u2 b9
    replace t0 := below_cell t0 b9
    replace t1 := below_cell t1 b9
    replace t2 := below_cell t2 b9
    replace xw := xw.below b9
    replace fw := own_below fw b9
    replace xm := xm.below b9
    replace fm := own_below fm b9
    replace xh := xh.below b9
    replace fh := own_below fh b9
    have ew13 := eW12.trans (b9.mono eW12.size)
    clear b9 eW12
    have lt_v0 := World.block_lt_of_cell? _ _ v0
    simp only at lt_v0
    have lt_u0 := World.block_lt_of_cell? _ _ u0
    simp only at lt_u0
    have lt_t0 := World.block_lt_of_cell? _ _ t0
    simp only at lt_t0
    go_wp2_with fail
    clear lt_v0
    clear lt_u0
    clear lt_t0
    refine (eqFaultS_yes _ _ _ _ _ _ _ _ (Nat.le_refl _) FS (by omega) (own_sl encFault_len (by omega) fh) (own_sl encFault_len (by omega) fw)).mono ?_
    rintro r w14 ⟨rfl, b9⟩
    replace v0 := below_cell v0 b9
    replace v1 := below_cell v1 b9
    replace v2 := below_cell v2 b9
    replace u0 := below_cell u0 b9
    replace u1 := below_cell u1 b9
    replace u2 := below_cell u2 b9
    replace t0 := below_cell t0 b9
    replace t1 := below_cell t1 b9
    replace t2 := below_cell t2 b9
    replace xw := xw.below b9
    replace fw := own_below fw b9
    replace xm := xm.below b9
    replace fm := own_below fm b9
    replace xh := xh.below b9
    replace fh := own_below fh b9
    have ew14 := ew13.trans (b9.mono ew13.size)
    clear b9 ew13
    have lt_v0 := World.block_lt_of_cell? _ _ v0
    simp only at lt_v0
    have lt_u0 := World.block_lt_of_cell? _ _ u0
    simp only at lt_u0
    have lt_t0 := World.block_lt_of_cell? _ _ t0
    simp only at lt_t0
    go_wp2_with fail
    clear lt_v0
    clear lt_u0
    clear lt_t0
    (with_reducible refine (cH  _ _ _ _ _ _ _ _ _ _ NHg.out QHg.out.1 QHg.out.2.1 QHg.out.2.2 xm.sl).mono ?_)
    rintro r w15 ⟨rfl, b9⟩
    replace v0 := below_cell v0 b9
    replace v1 := below_cell v1 b9
    replace v2 := below_cell v2 b9
    replace u0 := below_cell u0 b9
    replace u1 := below_cell u1 b9
    replace u2 := below_cell u2 b9
    replace t0 := below_cell t0 b9
    replace t1 := below_cell t1 b9
    replace t2 := below_cell t2 b9
    replace xw := xw.below b9
    replace fw := own_below fw b9
    replace xm := xm.below b9
    replace fm := own_below fm b9
    replace xh := xh.below b9
    replace fh := own_below fh b9
    have ew15 := ew14.trans (b9.mono ew14.size)
    clear b9 ew14
    have lt_v0 := World.block_lt_of_cell? _ _ v0
    simp only at lt_v0
    have lt_u0 := World.block_lt_of_cell? _ _ u0
    simp only at lt_u0
    have lt_t0 := World.block_lt_of_cell? _ _ t0
    simp only at lt_t0
    go_wp2_with fail
    clear lt_v0
    clear lt_u0
    clear lt_t0
    refine (heldFaultS_any _ _ _ _ _ _ (by omega) (by omega) (by omega) (own_sl encFault_len (by omega) fm)).mono ?_
    rintro r w16 ⟨rfl, b9⟩
    replace v0 := below_cell v0 b9
    replace v1 := below_cell v1 b9
    replace v2 := below_cell v2 b9
    replace u0 := below_cell u0 b9
    replace u1 := below_cell u1 b9
    replace u2 := below_cell u2 b9
    replace t0 := below_cell t0 b9
    replace t1 := below_cell t1 b9
    replace t2 := below_cell t2 b9
    replace xw := xw.below b9
    replace fw := own_below fw b9
    replace xm := xm.below b9
    replace fm := own_below fm b9
    replace xh := xh.below b9
    replace fh := own_below fh b9
    have ew16 := ew15.trans (b9.mono ew15.size)
    clear b9 ew15
    go_wp2_with fail
    go_ret
    exact ⟨rfl, ew16⟩
  · have hb1 : (1048576 : Int) < (s.size : Int) := by omega
    go_enter Tryz.func3, Tryz.ntmps3
    go_wp2_with fail
    go_ret
    exact ⟨rfl, Below.refl _ _⟩
end Go.Proofs.YtcgkcfmiabninaaGreatDoor
/-
  What the door's run leaves in the listed variables of a reading statement; what the condition gives the walks. No condition.
-/
namespace Go.Proofs.YtcgkcfmiabninaaGreatDoor
open Go.ChangeShapes Go.WideShapes Go.ChangeAt Go.RowKit Go.Stop Go.Extern.Stop

abbrev kLaid : List (String × DataW Unit) := Rows.fnExactReadSchemeRow.laid
theorem kDoor_met (os : Os) (args : Array Value) : laidMetH Tryz.prog kLaid ((World.laidAll Tryz.prog os kLaid).forCall (fun _ _ => 0) ⟨#[], args, []⟩).memory := by
  rw [MakeChecks.laidMetH_plain _ _ _ (by kernel_rfl)]
  exact laidMet_laidAll _ (by kernel_rfl) (by kernel_rfl)
theorem k_star : "*" ++ "errors.errorString" = "*errors.errorString" := by decide
theorem k_row (u : TypeId) (h : Tryz.prog.typeName? 3 u = some "*errors.errorString") : u = 140 :=
  typeName_ptr_named (nm := "errors.errorString") (by rw [k_star]; kernel_rfl) (by kernel_rfl) (by decide) u (by rw [k_star]; exact h)
theorem kLib {W : World} (h : laidMetH Tryz.prog kLaid W) (hs : W.ShapedOpen Tryz.prog) : LibW W := by
  rw [MakeChecks.laidMetH_plain _ _ _ (by kernel_rfl)] at h
  have h2 : laidMet Tryz.prog [("internal/strconv.uint64pow10", Lib.tabData .u64 Lib.pow10Tab), ("unicode/utf8.acceptRanges", Rows.laid_unicode_utf8_acceptRanges), ("strconv.ErrRange", Rows.laid_strconv_ErrRange), ("strconv.ErrSyntax", Rows.laid_strconv_ErrSyntax), ("unicode/utf8.first", Rows.laid_unicode_utf8_first)] W := laidMet.tail (laidMet.tail h)
  have h4 := laidMet.tail (laidMet.tail h2)
  have h5 := laidMet.tail h4
  have gR : Tryz.prog.globalNamed "strconv.ErrRange" = some 5 := by kernel_rfl
  have gS : Tryz.prog.globalNamed "strconv.ErrSyntax" = some 4 := by kernel_rfl
  obtain ⟨a4, s4, v4, _⟩ := laid_sentinel (tp := 140) h4 gR (by kernel_rfl) Tryz.underlying95 k_row Tryz.underlying140 Tryz.underlying142 rfl rfl Tryz.underlying9 (by kernel_rfl) (by kernel_rfl)
  obtain ⟨a5, s5, v5, _⟩ := laid_sentinel (tp := 140) h5 gS (by kernel_rfl) Tryz.underlying95 k_row Tryz.underlying140 Tryz.underlying142 rfl rfl Tryz.underlying9 (by kernel_rfl) (by kernel_rfl)
  exact ⟨Lib.tabIs_of_head (g := 1) (t := 122) (e := 81) (n := 20) (by kernel_rfl) (by kernel_rfl) Tryz.underlying122 Tryz.underlying81 (by kernel_rfl) (by kernel_rfl) h2,
    maxlen_of W hs, ⟨_, _, World.var?_cell gS v5 0⟩, ⟨_, _, World.var?_cell gR v4 0⟩⟩
theorem handed_shaped {H : Type} {enc : TypeId × Value → H} {a : Assume} {C : Checked} {os : Os} {f : FuncId} {fn : Func} {s : ChangeSpec} {conds : List PathCond} {apart fresh handsOn again : Bool} {X : World → Array Value → Prop}
    (hX : ∀ (w w' : World) (args : Array Value), w.heap = w'.heap → X w args → X w' args)
    (own : ownKnob C.prog.godebug = none) (started : os.Started) (noInit : C.prog.inits.idxOf? f = none) (hfn : C.prog.funcs[f]? = some fn)
    (witness : ∃ (w : World) (tape : Tape) (i : Input), w.os = os ∧ (w.forCall tape i).Shaped C.prog ∧ i.vars = [] ∧ Input.okWide C.prog (w.forCall tape i) .any w.heap.size f i ∧
      ((s.pre enc C.prog fn conds apart (w.forCall tape i).memory i.args ∧ X (w.forCall tape i).memory i.args) ∧ sizedMet enc C.prog fn (OpenSpec.ofChange s) apart (w.forCall tape i).memory i.args) ∧ a.holds C.prog (lone (Frame.enter C.prog f i.args .normal) [] (w.forCall tape i)))
    (contract : ∀ (W : World) (base : Nat) (args : Array Value) (ds gs : List (DataW H)) (before : List MemPlace),
      (∀ (j : Nat) t v, fn.params[j]? = some t → args[j]? = some v → Value.okWide C.prog W .any base t v) →
      DataW.Whole enc C.prog fn.params.toList s.vars apart W args.toList ds gs before → X W args → W.ShapedOpen C.prog →
      Calls C.prog f args W fun e W' => ∃ v, e = .returned v ∧ s.post enc C.prog fn apart fresh handsOn again W args v W') :
    ReturnsInHanded a C os f .any (fun w args => (s.pre enc C.prog fn conds apart w args ∧ X w args) ∧ sizedMet enc C.prog fn (OpenSpec.ofChange s) apart w args) (s.post enc C.prog fn apart fresh handsOn again) := by
  refine returnsInHanded_of_calls own started noInit witness ?_
  intro w tape i _ hsh _ hok hpre hholds
  obtain ⟨_, _, _, fn', hfn', _, _, _, _, hval⟩ := hok
  have e : fn' = fn := Option.some.inj (hfn'.symm.trans hfn)
  subst e
  obtain ⟨⟨⟨ds, gs, before, hw, hc⟩, hx⟩, hz⟩ := hpre
  have hw' := DataW.Whole.of_heap (w' := w.forCall tape i) (by rfl) hw
  refine (contract (w.forCall tape i) w.heap.size i.args ds gs before hval hw' (hX _ _ _ (by rfl) hx) hsh).mono fun e W' ⟨v, he, hp⟩ => ?_
  subst he
  exact ChangeSpec.post_blind hp
end Go.Proofs.YtcgkcfmiabninaaGreatDoor
