/-
  RS: texts SAddG, STubeG, one behind the other. No condition but what each says.
-/
import Derived.Test.YtcgkcfmiabninaaGreatDoorRS08
import Derived.Deep.Heap
import Derived.Deep.RegionLaw
/-
  Schemes of one's own: a name, a way is added; where its lists lie then and what is kept. No condition.
-/
namespace Go.Proofs.YtcgkcfmiabninaaGreatDoor
open Go.RowKit
set_option maxHeartbeats 400000

/-- the blocks of a scheme's lists -/
def SV.has (s : SV) (q : Nat) : Prop := (Value.slice s.A1 s.n1 s.c1).ownBlock = some q ∨ (Value.slice s.A2 s.n2 s.c2).ownBlock = some q ∨ (Value.slice s.A3 s.n3 s.c3).ownBlock = some q
/-- s2's lists lie in s's blocks or in new ones -/
def Kin (s s2 : SV) (H : Nat) : Prop := ∀ q, s2.has q → s.has q ∨ H ≤ q
theorem Kin.refl (s : SV) (H : Nat) : Kin s s H := fun _ h => .inl h
theorem Kin.trans {s s2 s3 : SV} {H H2 : Nat} (h : Kin s s2 H) (h2 : Kin s2 s3 H2) (hH : H ≤ H2) : Kin s s3 H := fun q hq => by
  rcases h2 q hq with h3 | h3
  · exact h q h3
  · exact .inr (Nat.le_trans hH h3)
/-- every block is kept but gs and those of s -/
def FarB (gs : Nat) (s : SV) (w w' : World) : Prop := ∀ b, b < w.heap.size → b ≠ gs → ¬ s.has b → w'.heap[b]? = w.heap[b]?
theorem FarB.of {gs : Nat} {s : SV} {w w' : World} (h : Below w.heap.size w w') : FarB gs s w w' := fun b hb _ _ => h.block b hb
theorem FarB.cell {gs : Nat} {s : SV} {w w' : World} (h : FarB gs s w w') {p : Addr} {v : Value} (hc : w.cell? p = some v) (h1 : p.block ≠ gs) (h2 : ¬ s.has p.block) : w'.cell? p = some v :=
  (World.cell?_of_block (h p.block (World.block_lt_of_cell? _ _ hc) h1 h2)).trans hc
theorem blk_far (w : World) (a : Addr) (u : Value) {b : Nat} (h : b ≠ a.block) : (w.setCell a u).heap[b]? = w.heap[b]? := Go.Deep.blk_setCell_other w a u b h
theorem own_is {g n c q : Nat} (h : (Value.slice (some ⟨g, 0, none⟩) n c).ownBlock = some q) : g = q := by simpa [Value.ownBlock] using h
theorem Kin.put1 {A1 A2 A3 : Option Addr} {n1 c1 n2 c2 n3 c3 gg cap n H H2 : Nat} (hat : (Value.slice A1 n1 c1).ownBlock = some gg ∨ gg = H2) (hH : H ≤ H2) : Kin ⟨A1, n1, c1, A2, n2, c2, A3, n3, c3⟩ ⟨some ⟨gg, 0, none⟩, n, cap, A2, n2, c2, A3, n3, c3⟩ H := fun q hq => by
  rcases hq with h | h | h
  · have := own_is h
    subst this
    rcases hat with h1 | h1
    · exact .inl (.inl h1)
    · exact .inr (by omega)
  · exact .inl (.inr (.inl h))
  · exact .inl (.inr (.inr h))
theorem Kin.put2 {A1 A2 A3 : Option Addr} {n1 c1 n2 c2 n3 c3 gg cap n H H2 : Nat} (hat : (Value.slice A2 n2 c2).ownBlock = some gg ∨ gg = H2) (hH : H ≤ H2) : Kin ⟨A1, n1, c1, A2, n2, c2, A3, n3, c3⟩ ⟨A1, n1, c1, some ⟨gg, 0, none⟩, n, cap, A3, n3, c3⟩ H := fun q hq => by
  rcases hq with h | h | h
  · exact .inl (.inl h)
  · have := own_is h
    subst this
    rcases hat with h1 | h1
    · exact .inl (.inr (.inl h1))
    · exact .inr (by omega)
  · exact .inl (.inr (.inr h))
theorem Kin.put3 {A1 A2 A3 : Option Addr} {n1 c1 n2 c2 n3 c3 gg cap n H H2 : Nat} (hat : (Value.slice A3 n3 c3).ownBlock = some gg ∨ gg = H2) (hH : H ≤ H2) : Kin ⟨A1, n1, c1, A2, n2, c2, A3, n3, c3⟩ ⟨A1, n1, c1, A2, n2, c2, some ⟨gg, 0, none⟩, n, cap⟩ H := fun q hq => by
  rcases hq with h | h | h
  · exact .inl (.inl h)
  · exact .inl (.inr (.inl h))
  · have := own_is h
    subst this
    rcases hat with h1 | h1
    · exact .inl (.inr (.inr h1))
    · exact .inr (by omega)
/-- what adding leaves, with where it lies -/
def AddG (gs lo B0 : Nat) (s : SV) (w : World) (f : Int) (x : Sch) (r : Ending) (w' : World) : Prop :=
  r = .returned (.int .i64 f) ∧ (∃ s2, XAt w' gs lo s2 x ∧ Kin s s2 w.heap.size) ∧ Below B0 w w' ∧ FarB gs s w w'
theorem AddG.post {gs lo B0 : Nat} {s : SV} {w w' : World} {f : Int} {x : Sch} {r : Ending} (h : AddG gs lo B0 s w f x r w') : AddPost gs lo B0 w f x r w' := by
  obtain ⟨h1, ⟨s2, h2, _⟩, h3, _⟩ := h
  exact ⟨h1, ⟨s2, h2⟩, h3⟩

set_option maxHeartbeats 2000000 in
set_option maxRecDepth 100000 in
theorem addStationG_any (gs lo B0 : Nat) (s : SV) (x : Sch) (z : ByteArray) (w : World) (hg0 : B0 ≤ gs) (hlo : B0 ≤ lo) (hlw : lo ≤ w.heap.size) (hz : z.size ≤ 9223372036854775807) (hl : x.st.length ≤ 20) (h : XAt w gs lo s x) :
    Calls Tryz.prog 54 #[.pointer (some ⟨gs, 0, none⟩), .string z] w (AddG gs lo B0 s w (stF x.st z) (addSt x z)) := by
  obtain ⟨A1, n1, c1, A2, n2, c2, A3, n3, c3⟩ := s
  obtain ⟨ln1, ln2, ln3⟩ := h.len
  simp only at ln1 ln2 ln3
  have k0 := h.k0
  have k1 := h.k1
  simp only at k0 k1
  have hsl := h.own.sl
  have hlt := h.lt
  have h1 := hasStation_any gs A1 n1 c1 x.st z w _ (by omega) hsl.st k0
  have h0 := implIsName_any z w hz
  have E := hid (show stF x.st z = if nameB z then if hasS x.st z then 5 else if x.st.length < 20 then 0 else 8 else 3 from rfl)
  have EA := hid (show addSt x z = if stF x.st z = 0 then ⟨x.st ++ [z], x.rm, x.wy⟩ else x from rfl)
  have Ln := hid ln1
  rw [← ln1] at E
  generalize nameB z = p0 at h0 E
  generalize hasS x.st z = p1 at h1 E
  have hr := h.own.st
  simp only at hr
  obtain ⟨i0, hi, hz0, hz1, hz2⟩ := info_parts str_info
  have hp := fun (W : World) (gg cap H : Nat) => h.put1 (w3 := W) (z := z) (gg := gg) (cap := cap) (H := H)
  simp only at hp
  have q1 : (Value.slice A1 n1 c1).ownBlock ≠ some gs := h.o1
  have hn20 : n1 ≤ 20 := by omega
  have Hh := hid h
  have hlr := hid hr.lt
  have HP := hid hp
  have fz := h.f0
  clear h ln1 ln2 ln3 hsl hp
  by_cases hall : (p0 = true ∧ p1 = false) ∧ n1 < 20
  · obtain ⟨⟨rfl, rfl⟩, hlt20⟩ := hall
    have hne : ((n1 : Int) == 20) = false := by simp; omega
    have E0 : Hid (stF x.st z = 0) := by rw [Hid, E.out]; simp; omega
    have EX : Hid (addSt x z = ⟨x.st ++ [z], x.rm, x.wy⟩) := by rw [Hid, EA.out, if_pos E0.out]
    clear E EA
    go_enter Tryz.func54, Tryz.ntmps54
    go_wp2_with (first | (go_at_call 70; refine h0.mono ?_; rintro r w0 ⟨rfl, e⟩; replace e := e.symm; subst e) | (go_at_call 71; refine h1.mono ?_; rintro r w1 ⟨rfl, e⟩; replace e := e.symm; subst e) | (at_builtin; refine wpList_append_lies _ rfl _ _ 22 rfl lo 9 i0 (.string ByteArray.empty) 1 16 Tryz.underlying22 hi hz0 hz1 hz2 rfl (by omega) (.slice A1 n1 c1) n1 (x.st.flatMap encS) rfl (hr.alloc _) ⟨w.heap.size, 0, none⟩ 1 1 [.string z] rfl rfl (World.news_of_block (cs := #[.string z]) (t := 9) (fr := (0, 0)) (heap_alloc_new w _)) (by simp [Value.oneCell']) (by omega) (by simp only [maxLen]; omega) (by omega) (by simp; omega) (w.heap.size + 1) (by simp) ?_; intro gg cap w3 ho3 hg3 hat3 hlt3; have hgg := (gr_alloc (World.grownBy.refl w _)).trans hg3; have f3 := (hgg.frozen_far ⟨gs, 0, none⟩ hlt (fun e => q1 e.symm)).trans fz; have k3 : ∃ v, w3.cell? ⟨gs, 0, none⟩ = some v := ⟨_, hgg.cell k0 (fun e => q1 e.symm)⟩; obtain ⟨v3, k3⟩ := k3))
    go_ret
    refine ⟨retI E0.out.symm, ⟨⟨some ⟨gg, 0, none⟩, n1 + 1, cap, A2, n2, c2, A3, n3, c3⟩, ?_, Kin.put1 hat3 (by omega)⟩, ?_, fun b hb h1 h2 => ?_⟩
    · rw [EX.out]
      exact HP.out _ _ _ (w.heap.size + 1) hgg (by omega) hat3 (by simpa [encS] using ho3)
    · refine bl_set hg0 ?_
      exact ((Below.refl B0 w).alloc (by omega) _).grown hg3 (by simp; omega) (fun b hb => by have := (hlr.out b hb).1; omega)
    · exact (blk_far _ _ _ h1).trans (hgg.block b hb (fun e => h2 (.inl e.symm)))
  · have hcase : ∃ f : Int, f ≠ 0 ∧ Hid (stF x.st z = f) := by
      refine ⟨_, ?_, rfl⟩
      rw [E.out]
      cases p0 <;> cases p1 <;> first | (simp; done) | (simp at hall ⊢; omega)
    by_cases hlt20 : n1 < 20
    · have hne : ((n1 : Int) == 20) = false := by simp; omega
      cases p0 <;> cases p1 <;> first | (exact absurd ⟨⟨rfl, rfl⟩, hlt20⟩ hall) | skip
      all_goals
        obtain ⟨f, hf, F⟩ := hcase
        clear hall
        go_enter Tryz.func54, Tryz.ntmps54
        go_wp2_with (first | (go_at_call 70; refine h0.mono ?_; rintro r w0 ⟨rfl, e⟩; replace e := e.symm; subst e) | (go_at_call 71; refine h1.mono ?_; rintro r w1 ⟨rfl, e⟩; replace e := e.symm; subst e))
        go_ret
        exact ⟨retI (by rw [E.out]; simp), ⟨_, (by rw [EA.out, if_neg (by rw [F.out]; exact hf)]; exact Hh.out), Kin.refl _ _⟩, Below.refl _ _, FarB.of (Below.refl _ _)⟩
    · have hne : ((n1 : Int) == 20) = true := by simp; omega
      have hge : ¬ ((n1 : Int) < 20) := by omega
      clear hall
      cases p0 <;> cases p1
      all_goals
        obtain ⟨f, hf, F⟩ := hcase
        have Hlt := hid hlt20
        go_enter Tryz.func54, Tryz.ntmps54
        go_wp2_with (first | (go_at_call 70; refine h0.mono ?_; rintro r w0 ⟨rfl, e⟩; replace e := e.symm; subst e) | (go_at_call 71; refine h1.mono ?_; rintro r w1 ⟨rfl, e⟩; replace e := e.symm; subst e))
        go_ret
        exact ⟨retI (by rw [E.out]; simp [Hlt.out]), ⟨_, (by rw [EA.out, if_neg (by rw [F.out]; exact hf)]; exact Hh.out), Kin.refl _ _⟩, Below.refl _ _, FarB.of (Below.refl _ _)⟩
set_option maxHeartbeats 2000000 in
set_option maxRecDepth 100000 in
theorem l21StationG_any (gs lo B0 : Nat) (s : SV) (x : Sch) (z : ByteArray) (w : World) (hg0 : B0 ≤ gs) (hlo : B0 ≤ lo) (hlw : lo ≤ w.heap.size) (hz : z.size ≤ 9223372036854775807) (hl : x.st.length ≤ 20) (h : XAt w gs lo s x) :
    Calls Tryz.prog 58 #[.pointer (some ⟨gs, 0, none⟩), .string z] w (AddG gs lo B0 s w (stF x.st z) (addSt x z)) := by
  obtain ⟨A1, n1, c1, A2, n2, c2, A3, n3, c3⟩ := s
  obtain ⟨ln1, ln2, ln3⟩ := h.len
  simp only at ln1 ln2 ln3
  have k0 := h.k0
  have k1 := h.k1
  simp only at k0 k1
  have hsl := h.own.sl
  have hlt := h.lt
  have h1 := l21Has_any A1 n1 c1 x.st z w _ (by omega) hsl.st
  have h0 := specIsName_any z w hz
  have E := hid (show stF x.st z = if nameB z then if hasS x.st z then 5 else if x.st.length < 20 then 0 else 8 else 3 from rfl)
  have EA := hid (show addSt x z = if stF x.st z = 0 then ⟨x.st ++ [z], x.rm, x.wy⟩ else x from rfl)
  have Ln := hid ln1
  rw [← ln1] at E
  generalize nameB z = p0 at h0 E
  generalize hasS x.st z = p1 at h1 E
  have hr := h.own.st
  simp only at hr
  obtain ⟨i0, hi, hz0, hz1, hz2⟩ := info_parts str_info
  have hp := fun (W : World) (gg cap H : Nat) => h.put1 (w3 := W) (z := z) (gg := gg) (cap := cap) (H := H)
  simp only at hp
  have q1 : (Value.slice A1 n1 c1).ownBlock ≠ some gs := h.o1
  have hn20 : n1 ≤ 20 := by omega
  have Hh := hid h
  have hlr := hid hr.lt
  have HP := hid hp
  have fz := h.f0
  clear h ln1 ln2 ln3 hsl hp
  by_cases hall : (p0 = true ∧ p1 = false) ∧ n1 < 20
  · obtain ⟨⟨rfl, rfl⟩, hlt20⟩ := hall
    have hne : ((n1 : Int) == 20) = false := by simp; omega
    have E0 : Hid (stF x.st z = 0) := by rw [Hid, E.out]; simp; omega
    have EX : Hid (addSt x z = ⟨x.st ++ [z], x.rm, x.wy⟩) := by rw [Hid, EA.out, if_pos E0.out]
    clear E EA
    go_enter Tryz.func58, Tryz.ntmps58
    go_wp2_with (first | (go_at_call 74; refine h0.mono ?_; rintro r w0 ⟨rfl, e⟩; replace e := e.symm; subst e) | (go_at_call 75; refine h1.mono ?_; rintro r w1 ⟨rfl, e⟩; replace e := e.symm; subst e) | (at_builtin; refine wpList_append_lies _ rfl _ _ 22 rfl lo 9 i0 (.string ByteArray.empty) 1 16 Tryz.underlying22 hi hz0 hz1 hz2 rfl (by omega) (.slice A1 n1 c1) n1 (x.st.flatMap encS) rfl (hr.alloc _) ⟨w.heap.size, 0, none⟩ 1 1 [.string z] rfl rfl (World.news_of_block (cs := #[.string z]) (t := 9) (fr := (0, 0)) (heap_alloc_new w _)) (by simp [Value.oneCell']) (by omega) (by simp only [maxLen]; omega) (by omega) (by simp; omega) (w.heap.size + 1) (by simp) ?_; intro gg cap w3 ho3 hg3 hat3 hlt3; have hgg := (gr_alloc (World.grownBy.refl w _)).trans hg3; have f3 := (hgg.frozen_far ⟨gs, 0, none⟩ hlt (fun e => q1 e.symm)).trans fz; have k3 : ∃ v, w3.cell? ⟨gs, 0, none⟩ = some v := ⟨_, hgg.cell k0 (fun e => q1 e.symm)⟩; obtain ⟨v3, k3⟩ := k3))
    go_ret
    refine ⟨retI E0.out.symm, ⟨⟨some ⟨gg, 0, none⟩, n1 + 1, cap, A2, n2, c2, A3, n3, c3⟩, ?_, Kin.put1 hat3 (by omega)⟩, ?_, fun b hb h1 h2 => ?_⟩
    · rw [EX.out]
      exact HP.out _ _ _ (w.heap.size + 1) hgg (by omega) hat3 (by simpa [encS] using ho3)
    · refine bl_set hg0 ?_
      exact ((Below.refl B0 w).alloc (by omega) _).grown hg3 (by simp; omega) (fun b hb => by have := (hlr.out b hb).1; omega)
    · exact (blk_far _ _ _ h1).trans (hgg.block b hb (fun e => h2 (.inl e.symm)))
  · have hcase : ∃ f : Int, f ≠ 0 ∧ Hid (stF x.st z = f) := by
      refine ⟨_, ?_, rfl⟩
      rw [E.out]
      cases p0 <;> cases p1 <;> first | (simp; done) | (simp at hall ⊢; omega)
    by_cases hlt20 : n1 < 20
    · have hne : ((n1 : Int) == 20) = false := by simp; omega
      cases p0 <;> cases p1 <;> first | (exact absurd ⟨⟨rfl, rfl⟩, hlt20⟩ hall) | skip
      all_goals
        obtain ⟨f, hf, F⟩ := hcase
        clear hall
        go_enter Tryz.func58, Tryz.ntmps58
        go_wp2_with (first | (go_at_call 74; refine h0.mono ?_; rintro r w0 ⟨rfl, e⟩; replace e := e.symm; subst e) | (go_at_call 75; refine h1.mono ?_; rintro r w1 ⟨rfl, e⟩; replace e := e.symm; subst e))
        go_ret
        exact ⟨retI (by rw [E.out]; simp), ⟨_, (by rw [EA.out, if_neg (by rw [F.out]; exact hf)]; exact Hh.out), Kin.refl _ _⟩, Below.refl _ _, FarB.of (Below.refl _ _)⟩
    · have hne : ((n1 : Int) == 20) = true := by simp; omega
      have hge : ¬ ((n1 : Int) < 20) := by omega
      clear hall
      cases p0 <;> cases p1
      all_goals
        obtain ⟨f, hf, F⟩ := hcase
        have Hlt := hid hlt20
        go_enter Tryz.func58, Tryz.ntmps58
        go_wp2_with (first | (go_at_call 74; refine h0.mono ?_; rintro r w0 ⟨rfl, e⟩; replace e := e.symm; subst e) | (go_at_call 75; refine h1.mono ?_; rintro r w1 ⟨rfl, e⟩; replace e := e.symm; subst e))
        go_ret
        exact ⟨retI (by rw [E.out]; simp [Hlt.out]), ⟨_, (by rw [EA.out, if_neg (by rw [F.out]; exact hf)]; exact Hh.out), Kin.refl _ _⟩, Below.refl _ _, FarB.of (Below.refl _ _)⟩
set_option maxHeartbeats 2000000 in
set_option maxRecDepth 100000 in
theorem addRoomG_any (gs lo B0 : Nat) (s : SV) (x : Sch) (z : ByteArray) (w : World) (hg0 : B0 ≤ gs) (hlo : B0 ≤ lo) (hlw : lo ≤ w.heap.size) (_hz : z.size ≤ 9223372036854775807) (hl : x.st.length ≤ 20) (hl2 : x.rm.length ≤ 2000000) (h : XAt w gs lo s x) :
    Calls Tryz.prog 55 #[.pointer (some ⟨gs, 0, none⟩), .string z] w (AddG gs lo B0 s w (rmF x.st x.rm z) (addRm x z)) := by
  obtain ⟨A1, n1, c1, A2, n2, c2, A3, n3, c3⟩ := s
  obtain ⟨ln1, ln2, ln3⟩ := h.len
  simp only at ln1 ln2 ln3
  have k0 := h.k0
  have k1 := h.k1
  simp only at k0 k1
  have hsl := h.own.sl
  have hlt := h.lt
  have h1 := hasStation_any gs A1 n1 c1 x.st z w _ (by omega) hsl.st k0
  have h2 := ContainsS_any A2 n2 c2 x.rm z w _ (by omega) hsl.rm
  have E := hid (show rmF x.st x.rm z = if hasS x.st z then if hasS x.rm z then 5 else 0 else 6 from rfl)
  have EA := hid (show addRm x z = if rmF x.st x.rm z = 0 then ⟨x.st, x.rm ++ [z], x.wy⟩ else x from rfl)
  have Ln := hid ln2
  generalize hasS x.st z = p1 at h1 E
  generalize hasS x.rm z = p2 at h2 E
  have hr := h.own.rm
  simp only at hr
  obtain ⟨i0, hi, hz0, hz1, hz2⟩ := info_parts str_info
  have hp := fun (W : World) (gg cap H : Nat) => h.put2 (w3 := W) (z := z) (gg := gg) (cap := cap) (H := H)
  simp only at hp
  have q2 : (Value.slice A2 n2 c2).ownBlock ≠ some gs := h.o2
  have hn20 : n2 ≤ 2000000 := by omega
  have Hh := hid h
  have hlr := hid hr.lt
  have HP := hid hp
  have fz := h.f1
  clear h ln1 ln2 ln3 hsl hp
  by_cases hall : p1 = true ∧ p2 = false
  · obtain ⟨rfl, rfl⟩ := hall
    have E0 : Hid (rmF x.st x.rm z = 0) := by rw [Hid, E.out]; simp
    have EX : Hid (addRm x z = ⟨x.st, x.rm ++ [z], x.wy⟩) := by rw [Hid, EA.out, if_pos E0.out]
    clear E EA
    go_enter Tryz.func55, Tryz.ntmps55
    go_wp2_with (first | (go_at_call 71; refine h1.mono ?_; rintro r w1 ⟨rfl, e⟩; replace e := e.symm; subst e) | (go_at_call 72; refine h2.mono ?_; rintro r w2 ⟨rfl, e⟩; replace e := e.symm; subst e) | (at_builtin; refine wpList_append_lies _ rfl _ _ 22 rfl lo 9 i0 (.string ByteArray.empty) 1 16 Tryz.underlying22 hi hz0 hz1 hz2 rfl (by omega) (.slice A2 n2 c2) n2 (x.rm.flatMap encS) rfl (hr.alloc _) ⟨w.heap.size, 0, none⟩ 1 1 [.string z] rfl rfl (World.news_of_block (cs := #[.string z]) (t := 9) (fr := (0, 0)) (heap_alloc_new w _)) (by simp [Value.oneCell']) (by omega) (by simp only [maxLen]; omega) (by omega) (by simp; omega) (w.heap.size + 1) (by simp) ?_; intro gg cap w3 ho3 hg3 hat3 hlt3; have hgg := (gr_alloc (World.grownBy.refl w _)).trans hg3; have f3 := (hgg.frozen_far ⟨gs, 1, none⟩ hlt (fun e => q2 e.symm)).trans fz; have k3 : ∃ v, w3.cell? ⟨gs, 1, none⟩ = some v := ⟨_, hgg.cell k1 (fun e => q2 e.symm)⟩; obtain ⟨v3, k3⟩ := k3))
    go_ret
    refine ⟨retI E0.out.symm, ⟨⟨A1, n1, c1, some ⟨gg, 0, none⟩, n2 + 1, cap, A3, n3, c3⟩, ?_, Kin.put2 hat3 (by omega)⟩, ?_, fun b hb h1 h2 => ?_⟩
    · rw [EX.out]
      exact HP.out _ _ _ (w.heap.size + 1) hgg (by omega) hat3 (by simpa [encS] using ho3)
    · refine bl_set hg0 ?_
      exact ((Below.refl B0 w).alloc (by omega) _).grown hg3 (by simp; omega) (fun b hb => by have := (hlr.out b hb).1; omega)
    · exact (blk_far _ _ _ h1).trans (hgg.block b hb (fun e => h2 (.inr (.inl e.symm))))
  · have hcase : ∃ f : Int, f ≠ 0 ∧ Hid (rmF x.st x.rm z = f) := by
      refine ⟨_, ?_, rfl⟩
      rw [E.out]
      cases p1 <;> cases p2 <;> simp_all
    cases p1 <;> cases p2 <;> first | (exact absurd ⟨rfl, rfl⟩ hall) | skip
    all_goals
      obtain ⟨f, hf, F⟩ := hcase
      clear hall
      go_enter Tryz.func55, Tryz.ntmps55
      go_wp2_with (first | (go_at_call 71; refine h1.mono ?_; rintro r w1 ⟨rfl, e⟩; replace e := e.symm; subst e) | (go_at_call 72; refine h2.mono ?_; rintro r w2 ⟨rfl, e⟩; replace e := e.symm; subst e))
      go_ret
      exact ⟨retI (by rw [E.out]; simp), ⟨_, (by rw [EA.out, if_neg (by rw [F.out]; exact hf)]; exact Hh.out), Kin.refl _ _⟩, Below.refl _ _, FarB.of (Below.refl _ _)⟩
set_option maxHeartbeats 2000000 in
set_option maxRecDepth 100000 in
theorem l21RoomG_any (gs lo B0 : Nat) (s : SV) (x : Sch) (z : ByteArray) (w : World) (hg0 : B0 ≤ gs) (hlo : B0 ≤ lo) (hlw : lo ≤ w.heap.size) (_hz : z.size ≤ 9223372036854775807) (hl : x.st.length ≤ 20) (hl2 : x.rm.length ≤ 2000000) (h : XAt w gs lo s x) :
    Calls Tryz.prog 59 #[.pointer (some ⟨gs, 0, none⟩), .string z] w (AddG gs lo B0 s w (rmF x.st x.rm z) (addRm x z)) := by
  obtain ⟨A1, n1, c1, A2, n2, c2, A3, n3, c3⟩ := s
  obtain ⟨ln1, ln2, ln3⟩ := h.len
  simp only at ln1 ln2 ln3
  have k0 := h.k0
  have k1 := h.k1
  simp only at k0 k1
  have hsl := h.own.sl
  have hlt := h.lt
  have h1 := l21Has_any A1 n1 c1 x.st z w _ (by omega) hsl.st
  have h2 := l21Has_any A2 n2 c2 x.rm z w _ (by omega) hsl.rm
  have E := hid (show rmF x.st x.rm z = if hasS x.st z then if hasS x.rm z then 5 else 0 else 6 from rfl)
  have EA := hid (show addRm x z = if rmF x.st x.rm z = 0 then ⟨x.st, x.rm ++ [z], x.wy⟩ else x from rfl)
  have Ln := hid ln2
  generalize hasS x.st z = p1 at h1 E
  generalize hasS x.rm z = p2 at h2 E
  have hr := h.own.rm
  simp only at hr
  obtain ⟨i0, hi, hz0, hz1, hz2⟩ := info_parts str_info
  have hp := fun (W : World) (gg cap H : Nat) => h.put2 (w3 := W) (z := z) (gg := gg) (cap := cap) (H := H)
  simp only at hp
  have q2 : (Value.slice A2 n2 c2).ownBlock ≠ some gs := h.o2
  have hn20 : n2 ≤ 2000000 := by omega
  have Hh := hid h
  have hlr := hid hr.lt
  have HP := hid hp
  have fz := h.f1
  clear h ln1 ln2 ln3 hsl hp
  by_cases hall : p1 = true ∧ p2 = false
  · obtain ⟨rfl, rfl⟩ := hall
    have E0 : Hid (rmF x.st x.rm z = 0) := by rw [Hid, E.out]; simp
    have EX : Hid (addRm x z = ⟨x.st, x.rm ++ [z], x.wy⟩) := by rw [Hid, EA.out, if_pos E0.out]
    clear E EA
    go_enter Tryz.func59, Tryz.ntmps59
    go_wp2_with (first | (go_at_call 75; (with_reducible refine h1.mono ?_); rintro r w1 ⟨rfl, e⟩; replace e := e.symm; subst e) | (go_at_call 75; (with_reducible refine h2.mono ?_); rintro r w2 ⟨rfl, e⟩; replace e := e.symm; subst e) | (at_builtin; refine wpList_append_lies _ rfl _ _ 22 rfl lo 9 i0 (.string ByteArray.empty) 1 16 Tryz.underlying22 hi hz0 hz1 hz2 rfl (by omega) (.slice A2 n2 c2) n2 (x.rm.flatMap encS) rfl (hr.alloc _) ⟨w.heap.size, 0, none⟩ 1 1 [.string z] rfl rfl (World.news_of_block (cs := #[.string z]) (t := 9) (fr := (0, 0)) (heap_alloc_new w _)) (by simp [Value.oneCell']) (by omega) (by simp only [maxLen]; omega) (by omega) (by simp; omega) (w.heap.size + 1) (by simp) ?_; intro gg cap w3 ho3 hg3 hat3 hlt3; have hgg := (gr_alloc (World.grownBy.refl w _)).trans hg3; have f3 := (hgg.frozen_far ⟨gs, 1, none⟩ hlt (fun e => q2 e.symm)).trans fz; have k3 : ∃ v, w3.cell? ⟨gs, 1, none⟩ = some v := ⟨_, hgg.cell k1 (fun e => q2 e.symm)⟩; obtain ⟨v3, k3⟩ := k3))
    go_ret
    refine ⟨retI E0.out.symm, ⟨⟨A1, n1, c1, some ⟨gg, 0, none⟩, n2 + 1, cap, A3, n3, c3⟩, ?_, Kin.put2 hat3 (by omega)⟩, ?_, fun b hb h1 h2 => ?_⟩
    · rw [EX.out]
      exact HP.out _ _ _ (w.heap.size + 1) hgg (by omega) hat3 (by simpa [encS] using ho3)
    · refine bl_set hg0 ?_
      exact ((Below.refl B0 w).alloc (by omega) _).grown hg3 (by simp; omega) (fun b hb => by have := (hlr.out b hb).1; omega)
    · exact (blk_far _ _ _ h1).trans (hgg.block b hb (fun e => h2 (.inr (.inl e.symm))))
  · have hcase : ∃ f : Int, f ≠ 0 ∧ Hid (rmF x.st x.rm z = f) := by
      refine ⟨_, ?_, rfl⟩
      rw [E.out]
      cases p1 <;> cases p2 <;> simp_all
    cases p1 <;> cases p2 <;> first | (exact absurd ⟨rfl, rfl⟩ hall) | skip
    all_goals
      obtain ⟨f, hf, F⟩ := hcase
      clear hall
      go_enter Tryz.func59, Tryz.ntmps59
      go_wp2_with (first | (go_at_call 75; (with_reducible refine h1.mono ?_); rintro r w1 ⟨rfl, e⟩; replace e := e.symm; subst e) | (go_at_call 75; (with_reducible refine h2.mono ?_); rintro r w2 ⟨rfl, e⟩; replace e := e.symm; subst e))
      go_ret
      exact ⟨retI (by rw [E.out]; simp), ⟨_, (by rw [EA.out, if_neg (by rw [F.out]; exact hf)]; exact Hh.out), Kin.refl _ _⟩, Below.refl _ _, FarB.of (Below.refl _ _)⟩
end Go.Proofs.YtcgkcfmiabninaaGreatDoor
/-
  Schemes of one's own: a name, a way is added; where its lists lie then and what is kept. No condition.
-/
namespace Go.Proofs.YtcgkcfmiabninaaGreatDoor
open Go.RowKit
set_option maxHeartbeats 400000

set_option maxHeartbeats 4000000 in
set_option maxRecDepth 100000 in
theorem addWayG_any (gs lo B0 : Nat) (s : SV) (x : Sch) (f t : ByteArray) (m : Int) (w : World) (hg0 : B0 ≤ gs) (hlo : B0 ≤ lo) (hlw : lo ≤ w.heap.size) (hl : x.st.length ≤ 20) (hl3 : x.wy.length ≤ 60) (h : XAt w gs lo s x) :
    Calls Tryz.prog 56 #[.pointer (some ⟨gs, 0, none⟩), .agg #[.string f, .string t, .int .i64 m]] w (AddG gs lo B0 s w (wyF x.st x.wy ⟨f, t, m⟩) (addWy x ⟨f, t, m⟩)) := by
  obtain ⟨A1, n1, c1, A2, n2, c2, A3, n3, c3⟩ := s
  obtain ⟨ln1, ln2, ln3⟩ := h.len
  simp only at ln1 ln2 ln3
  obtain ⟨W0, hW0⟩ : ∃ W0, W0 = w.alloc (.cells #[.string f, .string t, .int .i64 m] 62) := ⟨_, rfl⟩
  have b0 : Below w.heap.size w W0 := by rw [hW0]; exact (Below.refl _ _).alloc (Nat.le_refl _) _
  have b0B : Below B0 w W0 := b0.mono (by omega)
  have d0 : W0.cell? ⟨w.heap.size, 0, none⟩ = some (.string f) := by rw [hW0]; go_simp
  have d1 : W0.cell? ⟨w.heap.size, 1, none⟩ = some (.string t) := by rw [hW0]; go_simp
  have d2 : W0.cell? ⟨w.heap.size, 2, none⟩ = some (.int .i64 m) := by rw [hW0]; go_simp
  have HW := hid hW0
  clear hW0
  have hlt := h.lt
  have hlr : Hid (∀ b, (Value.slice A3 n3 c3).ownBlock = some b → lo ≤ b ∧ b < w.heap.size) := h.own.wy.lt
  have h0 := h.below b0
  have z0 := b0.size
  have k0 := h0.k0
  have k2 := h0.k2
  simp only at k0 k2
  have hsl := h0.own.sl
  have g1 := hasStation_any gs A1 n1 c1 x.st f W0 _ (by omega) hsl.st k0
  have g2 := hasStation_any gs A1 n1 c1 x.st t W0 _ (by omega) hsl.st k0
  have g4 := within_any m 1 2000 W0
  have g5 := hasWay_any gs A3 n3 c3 x.wy f t W0 _ (Nat.le_refl _) (by omega) hsl.wy k2
  have q3 := bs_eq (x := f) (y := t)
  have E : Hid (wyF x.st x.wy ⟨f, t, m⟩ = if hasS x.st f then if hasS x.st t then if decide (f = t) then 7 else if inR m 1 2000 then if hasW x.wy f t then 5 else if n3 < 60 then 0 else 8 else 4 else 6 else 6) := by
    simp only [Hid, wyF, decide_eq_true_eq, ← ln3]
  have EA := hid (show addWy x ⟨f, t, m⟩ = if wyF x.st x.wy ⟨f, t, m⟩ = 0 then ⟨x.st, x.rm, x.wy ++ [⟨f, t, m⟩]⟩ else x from rfl)
  have Ln := hid ln3
  generalize hasS x.st f = p1 at g1 E
  generalize hasS x.st t = p2 at g2 E
  generalize decide (f = t) = p3 at q3 E
  generalize inR m 1 2000 = p4 at g4 E
  generalize hasW x.wy f t = p5 at g5 E
  obtain ⟨i0, hi, hz0, hz1, hz2⟩ := info_parts Way_info
  have hr := h0.own.wy
  simp only at hr
  have q9 : (Value.slice A3 n3 c3).ownBlock ≠ some gs := h0.o3
  have hn60 : n3 ≤ 60 := by omega
  have fz := h0.f2
  have lg := h0.lt
  have Hh := hid h0
  have HR := hid hr
  clear h h0 ln1 ln2 ln3 hsl hr
  cases p1 with
  | false =>
    go_enter Tryz.func56, Tryz.ntmps56
    go_wp2_with fail
    rw [← HW.out]
    go_wp2_with (first | (go_at_call 71; (with_reducible refine g1.mono ?_); rintro r w1 ⟨rfl, e⟩; replace e := e.symm; subst e) | (go_at_call 71; (with_reducible refine g2.mono ?_); rintro r w1 ⟨rfl, e⟩; replace e := e.symm; subst e) | (go_at_call 51; refine g4.mono ?_; rintro r w1 ⟨rfl, e⟩; replace e := e.symm; subst e) | (go_at_call 73; refine g5.mono ?_; rintro r w5 ⟨rfl, b5⟩; replace k2 := below_cell k2 b5; replace d0 := below_cell d0 b5; replace d1 := below_cell d1 b5; replace d2 := below_cell d2 b5; replace fz := below_frz (v := .slice A3 n3 c3) (p := ⟨gs, 2, none⟩) (Hh.out.k2) fz b5; have z5 := b5.size))
    go_ret
    exact ⟨retI (by rw [E.out]; simp), ⟨_, (by rw [EA.out, if_neg (by rw [E.out]; simp)]; exact Hh.out), Kin.refl _ _⟩, b0B, FarB.of b0⟩
  | true =>
    cases p2 with
    | false =>
      go_enter Tryz.func56, Tryz.ntmps56
      go_wp2_with fail
      rw [← HW.out]
      go_wp2_with (first | (go_at_call 71; (with_reducible refine g1.mono ?_); rintro r w1 ⟨rfl, e⟩; replace e := e.symm; subst e) | (go_at_call 71; (with_reducible refine g2.mono ?_); rintro r w1 ⟨rfl, e⟩; replace e := e.symm; subst e) | (go_at_call 51; refine g4.mono ?_; rintro r w1 ⟨rfl, e⟩; replace e := e.symm; subst e) | (go_at_call 73; refine g5.mono ?_; rintro r w5 ⟨rfl, b5⟩; replace k2 := below_cell k2 b5; replace d0 := below_cell d0 b5; replace d1 := below_cell d1 b5; replace d2 := below_cell d2 b5; replace fz := below_frz (v := .slice A3 n3 c3) (p := ⟨gs, 2, none⟩) (Hh.out.k2) fz b5; have z5 := b5.size))
      go_ret
      exact ⟨retI (by rw [E.out]; simp), ⟨_, (by rw [EA.out, if_neg (by rw [E.out]; simp)]; exact Hh.out), Kin.refl _ _⟩, b0B, FarB.of b0⟩
    | true =>
      cases p3 with
      | true =>
        go_enter Tryz.func56, Tryz.ntmps56
        go_wp2_with fail
        rw [← HW.out]
        go_wp2_with (first | (go_at_call 71; (with_reducible refine g1.mono ?_); rintro r w1 ⟨rfl, e⟩; replace e := e.symm; subst e) | (go_at_call 71; (with_reducible refine g2.mono ?_); rintro r w1 ⟨rfl, e⟩; replace e := e.symm; subst e) | (go_at_call 51; refine g4.mono ?_; rintro r w1 ⟨rfl, e⟩; replace e := e.symm; subst e) | (go_at_call 73; refine g5.mono ?_; rintro r w5 ⟨rfl, b5⟩; replace k2 := below_cell k2 b5; replace d0 := below_cell d0 b5; replace d1 := below_cell d1 b5; replace d2 := below_cell d2 b5; replace fz := below_frz (v := .slice A3 n3 c3) (p := ⟨gs, 2, none⟩) (Hh.out.k2) fz b5; have z5 := b5.size))
        go_ret
        exact ⟨retI (by rw [E.out]; simp), ⟨_, (by rw [EA.out, if_neg (by rw [E.out]; simp)]; exact Hh.out), Kin.refl _ _⟩, b0B, FarB.of b0⟩
      | false =>
        cases p4 with
        | false =>
          go_enter Tryz.func56, Tryz.ntmps56
          go_wp2_with fail
          rw [← HW.out]
          go_wp2_with (first | (go_at_call 71; (with_reducible refine g1.mono ?_); rintro r w1 ⟨rfl, e⟩; replace e := e.symm; subst e) | (go_at_call 71; (with_reducible refine g2.mono ?_); rintro r w1 ⟨rfl, e⟩; replace e := e.symm; subst e) | (go_at_call 51; refine g4.mono ?_; rintro r w1 ⟨rfl, e⟩; replace e := e.symm; subst e) | (go_at_call 73; refine g5.mono ?_; rintro r w5 ⟨rfl, b5⟩; replace k2 := below_cell k2 b5; replace d0 := below_cell d0 b5; replace d1 := below_cell d1 b5; replace d2 := below_cell d2 b5; replace fz := below_frz (v := .slice A3 n3 c3) (p := ⟨gs, 2, none⟩) (Hh.out.k2) fz b5; have z5 := b5.size))
          go_ret
          exact ⟨retI (by rw [E.out]; simp), ⟨_, (by rw [EA.out, if_neg (by rw [E.out]; simp)]; exact Hh.out), Kin.refl _ _⟩, b0B, FarB.of b0⟩
        | true =>
          cases p5 with
          | true =>
            go_enter Tryz.func56, Tryz.ntmps56
            go_wp2_with fail
            rw [← HW.out]
            go_wp2_with (first | (go_at_call 71; (with_reducible refine g1.mono ?_); rintro r w1 ⟨rfl, e⟩; replace e := e.symm; subst e) | (go_at_call 71; (with_reducible refine g2.mono ?_); rintro r w1 ⟨rfl, e⟩; replace e := e.symm; subst e) | (go_at_call 51; refine g4.mono ?_; rintro r w1 ⟨rfl, e⟩; replace e := e.symm; subst e) | (go_at_call 73; refine g5.mono ?_; rintro r w5 ⟨rfl, b5⟩; replace k2 := below_cell k2 b5; replace d0 := below_cell d0 b5; replace d1 := below_cell d1 b5; replace d2 := below_cell d2 b5; replace fz := below_frz (v := .slice A3 n3 c3) (p := ⟨gs, 2, none⟩) (Hh.out.k2) fz b5; have z5 := b5.size))
            go_ret
            exact ⟨retI (by rw [E.out]; simp), ⟨_, (by rw [EA.out, if_neg (by rw [E.out]; simp)]; exact Hh.out.below b5), Kin.refl _ _⟩, b0B.trans (b5.mono (by omega)), FarB.of (b0.trans (b5.mono (by omega)))⟩
          | false =>
            by_cases hlt60 : n3 < 60
            · have hne : ((n3 : Int) == 60) = false := by simp; omega
              have E0 : Hid (wyF x.st x.wy ⟨f, t, m⟩ = 0) := by rw [Hid, E.out]; simp; omega
              have EX : Hid (addWy x ⟨f, t, m⟩ = ⟨x.st, x.rm, x.wy ++ [⟨f, t, m⟩]⟩) := by rw [Hid, EA.out, if_pos E0.out]
              clear E EA
              go_enter Tryz.func56, Tryz.ntmps56
              go_wp2_with fail
              rw [← HW.out]
              go_wp2_with (first | (go_at_call 71; (with_reducible refine g1.mono ?_); rintro r w1 ⟨rfl, e⟩; replace e := e.symm; subst e) | (go_at_call 71; (with_reducible refine g2.mono ?_); rintro r w1 ⟨rfl, e⟩; replace e := e.symm; subst e) | (go_at_call 51; refine g4.mono ?_; rintro r w1 ⟨rfl, e⟩; replace e := e.symm; subst e) | (go_at_call 73; refine g5.mono ?_; rintro r w5 ⟨rfl, b5⟩; replace k2 := below_cell k2 b5; replace d0 := below_cell d0 b5; replace d1 := below_cell d1 b5; replace d2 := below_cell d2 b5; replace fz := below_frz (v := .slice A3 n3 c3) (p := ⟨gs, 2, none⟩) (Hh.out.k2) fz b5; have z5 := b5.size))
              have h5 := hid (Hh.out.below b5)
              have hr5 := own_below HR.out b5
              have l5 : gs < w5.heap.size := h5.out.lt
              have l6 : w.heap.size < w5.heap.size := World.block_lt_of_cell? _ _ d0
              go_region_law ((refine step_append_lies _ (by rfl) _ _ _ (by rfl) lo 62 i0 _ 3 40 Tryz.underlying23 hi hz0 hz1 hz2 rfl (by omega) (.slice A3 n3 c3) n3 (x.wy.flatMap encWay) (by rfl) ((ow_drew hr5).alloc _) ⟨w5.heap.size, 0, none⟩ 1 1 [.string f, .string t, .int .i64 m] (by rfl) (by rfl) (World.news_of_block (cs := #[.string f, .string t, .int .i64 m]) (t := 62) (fr := (0, 0)) (heap_alloc_new w5.drew _)) (by simp [Value.oneCell']) (by omega) (by simp only [maxLen]; omega) (by omega) (by simp; omega) (w5.heap.size + 1) (by simp) ?_; intro gg cap w3 ho3 hg3 hat3 hlt3; have hgg := (gr_alloc (gr_drew (World.grownBy.refl w5 _))).trans hg3; have f3 := (hgg.frozen_far ⟨gs, 2, none⟩ l5 (fun e => q9 e.symm)).trans fz; have k3 : ∃ v, w3.cell? ⟨gs, 2, none⟩ = some v := ⟨_, hgg.cell k2 (fun e => q9 e.symm)⟩; obtain ⟨v3, k3⟩ := k3))
              all_goals
                go_wp2_with fail
                go_ret
                refine ⟨retI E0.out.symm, ⟨⟨A1, n1, c1, A2, n2, c2, some ⟨gg, 0, none⟩, n3 + 1, cap⟩, ?_, Kin.put3 hat3 (by omega)⟩, ?_, fun b hb h1 h2 => ?_⟩
                · rw [EX.out]
                  exact h5.out.put3 (H := w5.heap.size + 1) hgg (by omega) hat3 (by simpa [encWay] using ho3)
                · refine bl_set hg0 ?_
                  exact ((b0B.trans (b5.mono (by omega))).drew.alloc (by simp; omega) _).grown hg3 (by simp; omega) (fun b hb => by have := (hlr.out b hb).1; omega)
                · exact (blk_far _ _ _ h1).trans ((hgg.block b (Nat.lt_of_lt_of_le hb (b0.trans (b5.mono (by omega))).size) (fun e => h2 (.inr (.inr e.symm)))).trans ((b0.trans (b5.mono (by omega))).block b hb))
            · have hne : ((n3 : Int) == 60) = true := by simp; omega
              have Hlt := hid hlt60
              go_enter Tryz.func56, Tryz.ntmps56
              go_wp2_with fail
              rw [← HW.out]
              go_wp2_with (first | (go_at_call 71; (with_reducible refine g1.mono ?_); rintro r w1 ⟨rfl, e⟩; replace e := e.symm; subst e) | (go_at_call 71; (with_reducible refine g2.mono ?_); rintro r w1 ⟨rfl, e⟩; replace e := e.symm; subst e) | (go_at_call 51; refine g4.mono ?_; rintro r w1 ⟨rfl, e⟩; replace e := e.symm; subst e) | (go_at_call 73; refine g5.mono ?_; rintro r w5 ⟨rfl, b5⟩; replace k2 := below_cell k2 b5; replace d0 := below_cell d0 b5; replace d1 := below_cell d1 b5; replace d2 := below_cell d2 b5; replace fz := below_frz (v := .slice A3 n3 c3) (p := ⟨gs, 2, none⟩) (Hh.out.k2) fz b5; have z5 := b5.size))
              go_ret
              exact ⟨retI (by rw [E.out]; simp [Hlt.out]), ⟨_, (by rw [EA.out, if_neg (by rw [E.out]; simp [Hlt.out])]; exact Hh.out.below b5), Kin.refl _ _⟩, b0B.trans (b5.mono (by omega)), FarB.of (b0.trans (b5.mono (by omega)))⟩
end Go.Proofs.YtcgkcfmiabninaaGreatDoor
