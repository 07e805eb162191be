/-
  Schemes of one's own: a station, a room is added. No condition.
-/
import Derived.Test.YtmanbpobdaamfaaSOk
namespace Go.Proofs.Ytmanbpobdaamfaa
open Go.RowKit
set_option maxHeartbeats 400000
theorem XAt.put1 {w w3 : World} {gs lo : Nat} {s : SV} {x : Sch} (h : XAt w gs lo s x) {z : ByteArray} {gg cap H : Nat} (hg : w.grownBy w3 (Value.slice s.A1 s.n1 s.c1).ownBlock) (hH : w.heap.size ≤ H) (hat : (Value.slice s.A1 s.n1 s.c1).ownBlock = some gg ∨ gg = H)
    (ho : w3.ownsRow lo 9 1 (.slice (some ⟨gg, 0, none⟩) (s.n1 + 1) cap) (s.n1 + 1) ((x.st ++ [z]).flatMap encS)) :
    XAt (w3.setCell ⟨gs, 0, none⟩ (.slice (some ⟨gg, 0, none⟩) (s.n1 + 1) cap)) gs lo ⟨some ⟨gg, 0, none⟩, s.n1 + 1, cap, s.A2, s.n2, s.c2, s.A3, s.n3, s.c3⟩ ⟨x.st ++ [z], x.rm, x.wy⟩ := by
  have hlt := h.lt
  have hgg : (Value.slice (some ⟨gg, 0, none⟩) (s.n1 + 1) cap).ownBlock ≠ some gs := fun e => by
    have e2 : gg = gs := by simpa [Value.ownBlock] using e
    rcases hat with h1 | h1
    · exact h.o1 (by rw [h1, e2])
    · omega
  have q0 := hg.cell h.k0 (fun e => h.o1 e.symm)
  have q1 := hg.cell h.k1 (fun e => h.o1 e.symm)
  have q2 := hg.cell h.k2 (fun e => h.o1 e.symm)
  have g0 := (hg.frozen_far ⟨gs, 0, none⟩ hlt (fun e => h.o1 e.symm)).trans h.f0
  have g1 := (hg.frozen_far ⟨gs, 1, none⟩ hlt (fun e => h.o1 e.symm)).trans h.f1
  have g2 := (hg.frozen_far ⟨gs, 2, none⟩ hlt (fun e => h.o1 e.symm)).trans h.f2
  have n2 : ∀ b, (Value.slice (some ⟨gg, 0, none⟩) (s.n1 + 1) cap).ownBlock = some b → (Value.slice s.A2 s.n2 s.c2).ownBlock ≠ some b := fun b hb e => by
    have e2 : gg = b := by simpa [Value.ownBlock] using hb
    subst e2
    rcases hat with h1 | h1
    · exact h.own.ap12 _ h1 e
    · have := (h.own.rm.lt _ e).2; omega
  have n3 : ∀ b, (Value.slice (some ⟨gg, 0, none⟩) (s.n1 + 1) cap).ownBlock = some b → (Value.slice s.A3 s.n3 s.c3).ownBlock ≠ some b := fun b hb e => by
    have e2 : gg = b := by simpa [Value.ownBlock] using hb
    subst e2
    rcases hat with h1 | h1
    · exact h.own.ap13 _ h1 e
    · have := (h.own.wy.lt _ e).2; omega
  refine ⟨World.cell?_setCell_same _ _ _ q0, (World.cell?_setCell_other _ _ _ _ (by simp)).trans q1, (World.cell?_setCell_other _ _ _ _ (by simp)).trans q2, by simpa using g0, by simpa using g1, by simpa using g2, ⟨ow_set hgg ho, ow_set h.o2 (own_keep h.own.rm (v2 := (.slice s.A1 s.n1 s.c1)) h.own.ap12 hg), ow_set h.o3 (own_keep h.own.wy (v2 := (.slice s.A1 s.n1 s.c1)) h.own.ap13 hg), n2, n3, h.own.ap23⟩, hgg, h.o2, h.o3⟩
theorem XAt.put2 {w w3 : World} {gs lo : Nat} {s : SV} {x : Sch} (h : XAt w gs lo s x) {z : ByteArray} {gg cap H : Nat} (hg : w.grownBy w3 (Value.slice s.A2 s.n2 s.c2).ownBlock) (hH : w.heap.size ≤ H) (hat : (Value.slice s.A2 s.n2 s.c2).ownBlock = some gg ∨ gg = H)
    (ho : w3.ownsRow lo 9 1 (.slice (some ⟨gg, 0, none⟩) (s.n2 + 1) cap) (s.n2 + 1) ((x.rm ++ [z]).flatMap encS)) :
    XAt (w3.setCell ⟨gs, 1, none⟩ (.slice (some ⟨gg, 0, none⟩) (s.n2 + 1) cap)) gs lo ⟨s.A1, s.n1, s.c1, some ⟨gg, 0, none⟩, s.n2 + 1, cap, s.A3, s.n3, s.c3⟩ ⟨x.st, x.rm ++ [z], x.wy⟩ := by
  have hlt := h.lt
  have hgg : (Value.slice (some ⟨gg, 0, none⟩) (s.n2 + 1) cap).ownBlock ≠ some gs := fun e => by
    have e2 : gg = gs := by simpa [Value.ownBlock] using e
    rcases hat with h1 | h1
    · exact h.o2 (by rw [h1, e2])
    · omega
  have q0 := hg.cell h.k0 (fun e => h.o2 e.symm)
  have q1 := hg.cell h.k1 (fun e => h.o2 e.symm)
  have q2 := hg.cell h.k2 (fun e => h.o2 e.symm)
  have g0 := (hg.frozen_far ⟨gs, 0, none⟩ hlt (fun e => h.o2 e.symm)).trans h.f0
  have g1 := (hg.frozen_far ⟨gs, 1, none⟩ hlt (fun e => h.o2 e.symm)).trans h.f1
  have g2 := (hg.frozen_far ⟨gs, 2, none⟩ hlt (fun e => h.o2 e.symm)).trans h.f2
  have n1 : ∀ b, (Value.slice (some ⟨gg, 0, none⟩) (s.n2 + 1) cap).ownBlock = some b → (Value.slice s.A1 s.n1 s.c1).ownBlock ≠ some b := fun b hb e => by
    have e2 : gg = b := by simpa [Value.ownBlock] using hb
    subst e2
    rcases hat with h1 | h1
    · exact (fun b hb e => h.own.ap12 b e hb) _ h1 e
    · have := (h.own.st.lt _ e).2; omega
  have n3 : ∀ b, (Value.slice (some ⟨gg, 0, none⟩) (s.n2 + 1) cap).ownBlock = some b → (Value.slice s.A3 s.n3 s.c3).ownBlock ≠ some b := fun b hb e => by
    have e2 : gg = b := by simpa [Value.ownBlock] using hb
    subst e2
    rcases hat with h1 | h1
    · exact h.own.ap23 _ h1 e
    · have := (h.own.wy.lt _ e).2; omega
  refine ⟨(World.cell?_setCell_other _ _ _ _ (by simp)).trans q0, World.cell?_setCell_same _ _ _ q1, (World.cell?_setCell_other _ _ _ _ (by simp)).trans q2, by simpa using g0, by simpa using g1, by simpa using g2, ⟨ow_set h.o1 (own_keep h.own.st (v2 := (.slice s.A2 s.n2 s.c2)) (fun b hb e => h.own.ap12 b e hb) hg), ow_set hgg ho, ow_set h.o3 (own_keep h.own.wy (v2 := (.slice s.A2 s.n2 s.c2)) h.own.ap23 hg), (fun b hb e => n1 b e hb), h.own.ap13, n3⟩, h.o1, hgg, h.o3⟩
theorem XAt.put3 {w w3 : World} {gs lo : Nat} {s : SV} {x : Sch} (h : XAt w gs lo s x) {z : Way} {gg cap H : Nat} (hg : w.grownBy w3 (Value.slice s.A3 s.n3 s.c3).ownBlock) (hH : w.heap.size ≤ H) (hat : (Value.slice s.A3 s.n3 s.c3).ownBlock = some gg ∨ gg = H)
    (ho : w3.ownsRow lo 54 3 (.slice (some ⟨gg, 0, none⟩) (s.n3 + 1) cap) (s.n3 + 1) ((x.wy ++ [z]).flatMap encWay)) :
    XAt (w3.setCell ⟨gs, 2, none⟩ (.slice (some ⟨gg, 0, none⟩) (s.n3 + 1) cap)) gs lo ⟨s.A1, s.n1, s.c1, s.A2, s.n2, s.c2, some ⟨gg, 0, none⟩, s.n3 + 1, cap⟩ ⟨x.st, x.rm, x.wy ++ [z]⟩ := by
  have hlt := h.lt
  have hgg : (Value.slice (some ⟨gg, 0, none⟩) (s.n3 + 1) cap).ownBlock ≠ some gs := fun e => by
    have e2 : gg = gs := by simpa [Value.ownBlock] using e
    rcases hat with h1 | h1
    · exact h.o3 (by rw [h1, e2])
    · omega
  have q0 := hg.cell h.k0 (fun e => h.o3 e.symm)
  have q1 := hg.cell h.k1 (fun e => h.o3 e.symm)
  have q2 := hg.cell h.k2 (fun e => h.o3 e.symm)
  have g0 := (hg.frozen_far ⟨gs, 0, none⟩ hlt (fun e => h.o3 e.symm)).trans h.f0
  have g1 := (hg.frozen_far ⟨gs, 1, none⟩ hlt (fun e => h.o3 e.symm)).trans h.f1
  have g2 := (hg.frozen_far ⟨gs, 2, none⟩ hlt (fun e => h.o3 e.symm)).trans h.f2
  have n1 : ∀ b, (Value.slice (some ⟨gg, 0, none⟩) (s.n3 + 1) cap).ownBlock = some b → (Value.slice s.A1 s.n1 s.c1).ownBlock ≠ some b := fun b hb e => by
    have e2 : gg = b := by simpa [Value.ownBlock] using hb
    subst e2
    rcases hat with h1 | h1
    · exact (fun b hb e => h.own.ap13 b e hb) _ h1 e
    · have := (h.own.st.lt _ e).2; omega
  have n2 : ∀ b, (Value.slice (some ⟨gg, 0, none⟩) (s.n3 + 1) cap).ownBlock = some b → (Value.slice s.A2 s.n2 s.c2).ownBlock ≠ some b := fun b hb e => by
    have e2 : gg = b := by simpa [Value.ownBlock] using hb
    subst e2
    rcases hat with h1 | h1
    · exact (fun b hb e => h.own.ap23 b e hb) _ h1 e
    · have := (h.own.rm.lt _ e).2; omega
  refine ⟨(World.cell?_setCell_other _ _ _ _ (by simp)).trans q0, (World.cell?_setCell_other _ _ _ _ (by simp)).trans q1, World.cell?_setCell_same _ _ _ q2, by simpa using g0, by simpa using g1, by simpa using g2, ⟨ow_set h.o1 (own_keep h.own.st (v2 := (.slice s.A3 s.n3 s.c3)) (fun b hb e => h.own.ap13 b e hb) hg), ow_set h.o2 (own_keep h.own.rm (v2 := (.slice s.A3 s.n3 s.c3)) (fun b hb e => h.own.ap23 b e hb) hg), ow_set hgg ho, h.own.ap12, (fun b hb e => n1 b e hb), (fun b hb e => n2 b e hb)⟩, h.o1, h.o2, hgg⟩

def addSt (x : Sch) (z : ByteArray) : Sch := if stF x.st z = 0 then ⟨x.st ++ [z], x.rm, x.wy⟩ else x
def addRm (x : Sch) (z : ByteArray) : Sch := if rmF x.st x.rm z = 0 then ⟨x.st, x.rm ++ [z], x.wy⟩ else x
def addWy (x : Sch) (z : Way) : Sch := if wyF x.st x.wy z = 0 then ⟨x.st, x.rm, x.wy ++ [z]⟩ else x
/-- what adding leaves -/
def AddPost (gs lo B0 : Nat) (w : World) (f : Int) (x : Sch) (r : Ending) (w' : World) : Prop :=
  r = .returned (.int .i64 f) ∧ (∃ s, XAt w' gs lo s x) ∧ Below B0 w w'

set_option maxHeartbeats 2000000 in
set_option maxRecDepth 100000 in
theorem addStation_any (gs lo B0 : Nat) (s : SV) (x : Sch) (z : ByteArray) (w : World) (hg0 : B0 ≤ gs) (hlo : B0 ≤ lo) (hlw : lo ≤ w.heap.size) (hz : z.size ≤ 9223372036854775807) (hl : x.st.length ≤ 20) (h : XAt w gs lo s x) :
    Calls Try.prog 67 #[.pointer (some ⟨gs, 0, none⟩), .string z] w (AddPost gs lo B0 w (stF x.st z) (addSt x z)) := by
  obtain ⟨A1, n1, c1, A2, n2, c2, A3, n3, c3⟩ := s
  obtain ⟨ln1, ln2, ln3⟩ := h.len
  simp only at ln1 ln2 ln3
  have k0 := h.k0
  have k1 := h.k1
  simp only at k0 k1
  have hsl := h.own.sl
  have hlt := h.lt
  have h1 := hasStation_any gs A1 n1 c1 x.st z w _ (by omega) hsl.st k0
  have h0 := implIsName_any z w hz
  have E := hid (show stF x.st z = if nameB z then if hasS x.st z then 5 else if x.st.length < 20 then 0 else 8 else 3 from rfl)
  have EA := hid (show addSt x z = if stF x.st z = 0 then ⟨x.st ++ [z], x.rm, x.wy⟩ else x from rfl)
  have Ln := hid ln1
  rw [← ln1] at E
  generalize nameB z = p0 at h0 E
  generalize hasS x.st z = p1 at h1 E
  have hr := h.own.st
  simp only at hr
  obtain ⟨i0, hi, hz0, hz1, hz2⟩ := info_parts str_info
  have hp := fun (W : World) (gg cap H : Nat) => h.put1 (w3 := W) (z := z) (gg := gg) (cap := cap) (H := H)
  simp only at hp
  have q1 : (Value.slice A1 n1 c1).ownBlock ≠ some gs := h.o1
  have hn20 : n1 ≤ 20 := by omega
  have Hh := hid h
  have hlr := hid hr.lt
  have HP := hid hp
  have fz := h.f0
  clear h ln1 ln2 ln3 hsl hp
  by_cases hall : (p0 = true ∧ p1 = false) ∧ n1 < 20
  · obtain ⟨⟨rfl, rfl⟩, hlt20⟩ := hall
    have hne : ((n1 : Int) == 20) = false := by simp; omega
    have E0 : Hid (stF x.st z = 0) := by rw [Hid, E.out]; simp; omega
    have EX : Hid (addSt x z = ⟨x.st ++ [z], x.rm, x.wy⟩) := by rw [Hid, EA.out, if_pos E0.out]
    clear E EA
    go_enter Try.func67, Try.ntmps67
    go_wp2_with (first | (go_at_call 42; refine h0.mono ?_; rintro r w0 ⟨rfl, e⟩; replace e := e.symm; subst e) | (go_at_call 43; refine h1.mono ?_; rintro r w1 ⟨rfl, e⟩; replace e := e.symm; subst e) | (at_builtin; refine wpList_append_lies _ rfl _ _ 22 rfl lo 9 i0 (.string ByteArray.empty) 1 16 Try.underlying22 hi hz0 hz1 hz2 rfl (by omega) (.slice A1 n1 c1) n1 (x.st.flatMap encS) rfl (hr.alloc _) ⟨w.heap.size, 0, none⟩ 1 1 [.string z] rfl rfl (World.news_of_block (cs := #[.string z]) (t := 9) (fr := (0, 0)) (heap_alloc_new w _)) (by simp [Value.oneCell']) (by omega) (by simp only [maxLen]; omega) (by omega) (by simp; omega) (w.heap.size + 1) (by simp) ?_; intro gg cap w3 ho3 hg3 hat3 hlt3; have hgg := (gr_alloc (World.grownBy.refl w _)).trans hg3; have f3 := (hgg.frozen_far ⟨gs, 0, none⟩ hlt (fun e => q1 e.symm)).trans fz; have k3 : ∃ v, w3.cell? ⟨gs, 0, none⟩ = some v := ⟨_, hgg.cell k0 (fun e => q1 e.symm)⟩; obtain ⟨v3, k3⟩ := k3))
    go_ret
    refine ⟨retI E0.out.symm, ⟨⟨some ⟨gg, 0, none⟩, n1 + 1, cap, A2, n2, c2, A3, n3, c3⟩, ?_⟩, ?_⟩
    · rw [EX.out]
      exact HP.out _ _ _ (w.heap.size + 1) hgg (by omega) hat3 (by simpa [encS] using ho3)
    · refine bl_set hg0 ?_
      exact ((Below.refl B0 w).alloc (by omega) _).grown hg3 (by simp; omega) (fun b hb => by have := (hlr.out b hb).1; omega)
  · have hcase : ∃ f : Int, f ≠ 0 ∧ Hid (stF x.st z = f) := by
      refine ⟨_, ?_, rfl⟩
      rw [E.out]
      cases p0 <;> cases p1 <;> first | (simp; done) | (simp at hall ⊢; omega)
    by_cases hlt20 : n1 < 20
    · have hne : ((n1 : Int) == 20) = false := by simp; omega
      cases p0 <;> cases p1 <;> first | (exact absurd ⟨⟨rfl, rfl⟩, hlt20⟩ hall) | skip
      all_goals
        obtain ⟨f, hf, F⟩ := hcase
        clear hall
        go_enter Try.func67, Try.ntmps67
        go_wp2_with (first | (go_at_call 42; refine h0.mono ?_; rintro r w0 ⟨rfl, e⟩; replace e := e.symm; subst e) | (go_at_call 43; refine h1.mono ?_; rintro r w1 ⟨rfl, e⟩; replace e := e.symm; subst e))
        go_ret
        exact ⟨retI (by rw [E.out]; simp), ⟨_, by rw [EA.out, if_neg (by rw [F.out]; exact hf)]; exact Hh.out⟩, Below.refl _ _⟩
    · have hne : ((n1 : Int) == 20) = true := by simp; omega
      have hge : ¬ ((n1 : Int) < 20) := by omega
      clear hall
      cases p0 <;> cases p1
      all_goals
        obtain ⟨f, hf, F⟩ := hcase
        have Hlt := hid hlt20
        go_enter Try.func67, Try.ntmps67
        go_wp2_with (first | (go_at_call 42; refine h0.mono ?_; rintro r w0 ⟨rfl, e⟩; replace e := e.symm; subst e) | (go_at_call 43; refine h1.mono ?_; rintro r w1 ⟨rfl, e⟩; replace e := e.symm; subst e))
        go_ret
        exact ⟨retI (by rw [E.out]; simp [Hlt.out]), ⟨_, by rw [EA.out, if_neg (by rw [F.out]; exact hf)]; exact Hh.out⟩, Below.refl _ _⟩
set_option maxHeartbeats 2000000 in
set_option maxRecDepth 100000 in
theorem l21Station_any (gs lo B0 : Nat) (s : SV) (x : Sch) (z : ByteArray) (w : World) (hg0 : B0 ≤ gs) (hlo : B0 ≤ lo) (hlw : lo ≤ w.heap.size) (hz : z.size ≤ 9223372036854775807) (hl : x.st.length ≤ 20) (h : XAt w gs lo s x) :
    Calls Try.prog 86 #[.pointer (some ⟨gs, 0, none⟩), .string z] w (AddPost gs lo B0 w (stF x.st z) (addSt x z)) := by
  obtain ⟨A1, n1, c1, A2, n2, c2, A3, n3, c3⟩ := s
  obtain ⟨ln1, ln2, ln3⟩ := h.len
  simp only at ln1 ln2 ln3
  have k0 := h.k0
  have k1 := h.k1
  simp only at k0 k1
  have hsl := h.own.sl
  have hlt := h.lt
  have h1 := l21Has_any A1 n1 c1 x.st z w _ (by omega) hsl.st
  have h0 := specIsName_any z w hz
  have E := hid (show stF x.st z = if nameB z then if hasS x.st z then 5 else if x.st.length < 20 then 0 else 8 else 3 from rfl)
  have EA := hid (show addSt x z = if stF x.st z = 0 then ⟨x.st ++ [z], x.rm, x.wy⟩ else x from rfl)
  have Ln := hid ln1
  rw [← ln1] at E
  generalize nameB z = p0 at h0 E
  generalize hasS x.st z = p1 at h1 E
  have hr := h.own.st
  simp only at hr
  obtain ⟨i0, hi, hz0, hz1, hz2⟩ := info_parts str_info
  have hp := fun (W : World) (gg cap H : Nat) => h.put1 (w3 := W) (z := z) (gg := gg) (cap := cap) (H := H)
  simp only at hp
  have q1 : (Value.slice A1 n1 c1).ownBlock ≠ some gs := h.o1
  have hn20 : n1 ≤ 20 := by omega
  have Hh := hid h
  have hlr := hid hr.lt
  have HP := hid hp
  have fz := h.f0
  clear h ln1 ln2 ln3 hsl hp
  by_cases hall : (p0 = true ∧ p1 = false) ∧ n1 < 20
  · obtain ⟨⟨rfl, rfl⟩, hlt20⟩ := hall
    have hne : ((n1 : Int) == 20) = false := by simp; omega
    have E0 : Hid (stF x.st z = 0) := by rw [Hid, E.out]; simp; omega
    have EX : Hid (addSt x z = ⟨x.st ++ [z], x.rm, x.wy⟩) := by rw [Hid, EA.out, if_pos E0.out]
    clear E EA
    go_enter Try.func86, Try.ntmps86
    go_wp2_with (first | (go_at_call 36; refine h0.mono ?_; rintro r w0 ⟨rfl, e⟩; replace e := e.symm; subst e) | (go_at_call 37; refine h1.mono ?_; rintro r w1 ⟨rfl, e⟩; replace e := e.symm; subst e) | (at_builtin; refine wpList_append_lies _ rfl _ _ 22 rfl lo 9 i0 (.string ByteArray.empty) 1 16 Try.underlying22 hi hz0 hz1 hz2 rfl (by omega) (.slice A1 n1 c1) n1 (x.st.flatMap encS) rfl (hr.alloc _) ⟨w.heap.size, 0, none⟩ 1 1 [.string z] rfl rfl (World.news_of_block (cs := #[.string z]) (t := 9) (fr := (0, 0)) (heap_alloc_new w _)) (by simp [Value.oneCell']) (by omega) (by simp only [maxLen]; omega) (by omega) (by simp; omega) (w.heap.size + 1) (by simp) ?_; intro gg cap w3 ho3 hg3 hat3 hlt3; have hgg := (gr_alloc (World.grownBy.refl w _)).trans hg3; have f3 := (hgg.frozen_far ⟨gs, 0, none⟩ hlt (fun e => q1 e.symm)).trans fz; have k3 : ∃ v, w3.cell? ⟨gs, 0, none⟩ = some v := ⟨_, hgg.cell k0 (fun e => q1 e.symm)⟩; obtain ⟨v3, k3⟩ := k3))
    go_ret
    refine ⟨retI E0.out.symm, ⟨⟨some ⟨gg, 0, none⟩, n1 + 1, cap, A2, n2, c2, A3, n3, c3⟩, ?_⟩, ?_⟩
    · rw [EX.out]
      exact HP.out _ _ _ (w.heap.size + 1) hgg (by omega) hat3 (by simpa [encS] using ho3)
    · refine bl_set hg0 ?_
      exact ((Below.refl B0 w).alloc (by omega) _).grown hg3 (by simp; omega) (fun b hb => by have := (hlr.out b hb).1; omega)
  · have hcase : ∃ f : Int, f ≠ 0 ∧ Hid (stF x.st z = f) := by
      refine ⟨_, ?_, rfl⟩
      rw [E.out]
      cases p0 <;> cases p1 <;> first | (simp; done) | (simp at hall ⊢; omega)
    by_cases hlt20 : n1 < 20
    · have hne : ((n1 : Int) == 20) = false := by simp; omega
      cases p0 <;> cases p1 <;> first | (exact absurd ⟨⟨rfl, rfl⟩, hlt20⟩ hall) | skip
      all_goals
        obtain ⟨f, hf, F⟩ := hcase
        clear hall
        go_enter Try.func86, Try.ntmps86
        go_wp2_with (first | (go_at_call 36; refine h0.mono ?_; rintro r w0 ⟨rfl, e⟩; replace e := e.symm; subst e) | (go_at_call 37; refine h1.mono ?_; rintro r w1 ⟨rfl, e⟩; replace e := e.symm; subst e))
        go_ret
        exact ⟨retI (by rw [E.out]; simp), ⟨_, by rw [EA.out, if_neg (by rw [F.out]; exact hf)]; exact Hh.out⟩, Below.refl _ _⟩
    · have hne : ((n1 : Int) == 20) = true := by simp; omega
      have hge : ¬ ((n1 : Int) < 20) := by omega
      clear hall
      cases p0 <;> cases p1
      all_goals
        obtain ⟨f, hf, F⟩ := hcase
        have Hlt := hid hlt20
        go_enter Try.func86, Try.ntmps86
        go_wp2_with (first | (go_at_call 36; refine h0.mono ?_; rintro r w0 ⟨rfl, e⟩; replace e := e.symm; subst e) | (go_at_call 37; refine h1.mono ?_; rintro r w1 ⟨rfl, e⟩; replace e := e.symm; subst e))
        go_ret
        exact ⟨retI (by rw [E.out]; simp [Hlt.out]), ⟨_, by rw [EA.out, if_neg (by rw [F.out]; exact hf)]; exact Hh.out⟩, Below.refl _ _⟩
set_option maxHeartbeats 2000000 in
set_option maxRecDepth 100000 in
theorem addRoom_any (gs lo B0 : Nat) (s : SV) (x : Sch) (z : ByteArray) (w : World) (hg0 : B0 ≤ gs) (hlo : B0 ≤ lo) (hlw : lo ≤ w.heap.size) (hz : z.size ≤ 9223372036854775807) (hl : x.st.length ≤ 20) (hl2 : x.rm.length ≤ 2000000) (h : XAt w gs lo s x) :
    Calls Try.prog 68 #[.pointer (some ⟨gs, 0, none⟩), .string z] w (AddPost gs lo B0 w (rmF x.st x.rm z) (addRm x z)) := by
  obtain ⟨A1, n1, c1, A2, n2, c2, A3, n3, c3⟩ := s
  obtain ⟨ln1, ln2, ln3⟩ := h.len
  simp only at ln1 ln2 ln3
  have k0 := h.k0
  have k1 := h.k1
  simp only at k0 k1
  have hsl := h.own.sl
  have hlt := h.lt
  have h1 := hasStation_any gs A1 n1 c1 x.st z w _ (by omega) hsl.st k0
  have h2 := ContainsS_any A2 n2 c2 x.rm z w _ (by omega) hsl.rm
  have E := hid (show rmF x.st x.rm z = if hasS x.st z then if hasS x.rm z then 5 else 0 else 6 from rfl)
  have EA := hid (show addRm x z = if rmF x.st x.rm z = 0 then ⟨x.st, x.rm ++ [z], x.wy⟩ else x from rfl)
  have Ln := hid ln2
  generalize hasS x.st z = p1 at h1 E
  generalize hasS x.rm z = p2 at h2 E
  have hr := h.own.rm
  simp only at hr
  obtain ⟨i0, hi, hz0, hz1, hz2⟩ := info_parts str_info
  have hp := fun (W : World) (gg cap H : Nat) => h.put2 (w3 := W) (z := z) (gg := gg) (cap := cap) (H := H)
  simp only at hp
  have q2 : (Value.slice A2 n2 c2).ownBlock ≠ some gs := h.o2
  have hn20 : n2 ≤ 2000000 := by omega
  have Hh := hid h
  have hlr := hid hr.lt
  have HP := hid hp
  have fz := h.f1
  clear h ln1 ln2 ln3 hsl hp
  by_cases hall : p1 = true ∧ p2 = false
  · obtain ⟨rfl, rfl⟩ := hall
    have E0 : Hid (rmF x.st x.rm z = 0) := by rw [Hid, E.out]; simp
    have EX : Hid (addRm x z = ⟨x.st, x.rm ++ [z], x.wy⟩) := by rw [Hid, EA.out, if_pos E0.out]
    clear E EA
    go_enter Try.func68, Try.ntmps68
    go_wp2_with (first | (go_at_call 43; refine h1.mono ?_; rintro r w1 ⟨rfl, e⟩; replace e := e.symm; subst e) | (go_at_call 74; refine h2.mono ?_; rintro r w2 ⟨rfl, e⟩; replace e := e.symm; subst e) | (at_builtin; refine wpList_append_lies _ rfl _ _ 22 rfl lo 9 i0 (.string ByteArray.empty) 1 16 Try.underlying22 hi hz0 hz1 hz2 rfl (by omega) (.slice A2 n2 c2) n2 (x.rm.flatMap encS) rfl (hr.alloc _) ⟨w.heap.size, 0, none⟩ 1 1 [.string z] rfl rfl (World.news_of_block (cs := #[.string z]) (t := 9) (fr := (0, 0)) (heap_alloc_new w _)) (by simp [Value.oneCell']) (by omega) (by simp only [maxLen]; omega) (by omega) (by simp; omega) (w.heap.size + 1) (by simp) ?_; intro gg cap w3 ho3 hg3 hat3 hlt3; have hgg := (gr_alloc (World.grownBy.refl w _)).trans hg3; have f3 := (hgg.frozen_far ⟨gs, 1, none⟩ hlt (fun e => q2 e.symm)).trans fz; have k3 : ∃ v, w3.cell? ⟨gs, 1, none⟩ = some v := ⟨_, hgg.cell k1 (fun e => q2 e.symm)⟩; obtain ⟨v3, k3⟩ := k3))
    go_ret
    refine ⟨retI E0.out.symm, ⟨⟨A1, n1, c1, some ⟨gg, 0, none⟩, n2 + 1, cap, A3, n3, c3⟩, ?_⟩, ?_⟩
    · rw [EX.out]
      exact HP.out _ _ _ (w.heap.size + 1) hgg (by omega) hat3 (by simpa [encS] using ho3)
    · refine bl_set hg0 ?_
      exact ((Below.refl B0 w).alloc (by omega) _).grown hg3 (by simp; omega) (fun b hb => by have := (hlr.out b hb).1; omega)
  · have hcase : ∃ f : Int, f ≠ 0 ∧ Hid (rmF x.st x.rm z = f) := by
      refine ⟨_, ?_, rfl⟩
      rw [E.out]
      cases p1 <;> cases p2 <;> simp_all
    cases p1 <;> cases p2 <;> first | (exact absurd ⟨rfl, rfl⟩ hall) | skip
    all_goals
      obtain ⟨f, hf, F⟩ := hcase
      clear hall
      go_enter Try.func68, Try.ntmps68
      go_wp2_with (first | (go_at_call 43; refine h1.mono ?_; rintro r w1 ⟨rfl, e⟩; replace e := e.symm; subst e) | (go_at_call 74; refine h2.mono ?_; rintro r w2 ⟨rfl, e⟩; replace e := e.symm; subst e))
      go_ret
      exact ⟨retI (by rw [E.out]; simp), ⟨_, by rw [EA.out, if_neg (by rw [F.out]; exact hf)]; exact Hh.out⟩, Below.refl _ _⟩
set_option maxHeartbeats 2000000 in
set_option maxRecDepth 100000 in
theorem l21Room_any (gs lo B0 : Nat) (s : SV) (x : Sch) (z : ByteArray) (w : World) (hg0 : B0 ≤ gs) (hlo : B0 ≤ lo) (hlw : lo ≤ w.heap.size) (hz : z.size ≤ 9223372036854775807) (hl : x.st.length ≤ 20) (hl2 : x.rm.length ≤ 2000000) (h : XAt w gs lo s x) :
    Calls Try.prog 87 #[.pointer (some ⟨gs, 0, none⟩), .string z] w (AddPost gs lo B0 w (rmF x.st x.rm z) (addRm x z)) := by
  obtain ⟨A1, n1, c1, A2, n2, c2, A3, n3, c3⟩ := s
  obtain ⟨ln1, ln2, ln3⟩ := h.len
  simp only at ln1 ln2 ln3
  have k0 := h.k0
  have k1 := h.k1
  simp only at k0 k1
  have hsl := h.own.sl
  have hlt := h.lt
  have h1 := l21Has_any A1 n1 c1 x.st z w _ (by omega) hsl.st
  have h2 := l21Has_any A2 n2 c2 x.rm z w _ (by omega) hsl.rm
  have E := hid (show rmF x.st x.rm z = if hasS x.st z then if hasS x.rm z then 5 else 0 else 6 from rfl)
  have EA := hid (show addRm x z = if rmF x.st x.rm z = 0 then ⟨x.st, x.rm ++ [z], x.wy⟩ else x from rfl)
  have Ln := hid ln2
  generalize hasS x.st z = p1 at h1 E
  generalize hasS x.rm z = p2 at h2 E
  have hr := h.own.rm
  simp only at hr
  obtain ⟨i0, hi, hz0, hz1, hz2⟩ := info_parts str_info
  have hp := fun (W : World) (gg cap H : Nat) => h.put2 (w3 := W) (z := z) (gg := gg) (cap := cap) (H := H)
  simp only at hp
  have q2 : (Value.slice A2 n2 c2).ownBlock ≠ some gs := h.o2
  have hn20 : n2 ≤ 2000000 := by omega
  have Hh := hid h
  have hlr := hid hr.lt
  have HP := hid hp
  have fz := h.f1
  clear h ln1 ln2 ln3 hsl hp
  by_cases hall : p1 = true ∧ p2 = false
  · obtain ⟨rfl, rfl⟩ := hall
    have E0 : Hid (rmF x.st x.rm z = 0) := by rw [Hid, E.out]; simp
    have EX : Hid (addRm x z = ⟨x.st, x.rm ++ [z], x.wy⟩) := by rw [Hid, EA.out, if_pos E0.out]
    clear E EA
    go_enter Try.func87, Try.ntmps87
    go_wp2_with (first | (go_at_call 37; (with_reducible refine h1.mono ?_); rintro r w1 ⟨rfl, e⟩; replace e := e.symm; subst e) | (go_at_call 37; (with_reducible refine h2.mono ?_); rintro r w2 ⟨rfl, e⟩; replace e := e.symm; subst e) | (at_builtin; refine wpList_append_lies _ rfl _ _ 22 rfl lo 9 i0 (.string ByteArray.empty) 1 16 Try.underlying22 hi hz0 hz1 hz2 rfl (by omega) (.slice A2 n2 c2) n2 (x.rm.flatMap encS) rfl (hr.alloc _) ⟨w.heap.size, 0, none⟩ 1 1 [.string z] rfl rfl (World.news_of_block (cs := #[.string z]) (t := 9) (fr := (0, 0)) (heap_alloc_new w _)) (by simp [Value.oneCell']) (by omega) (by simp only [maxLen]; omega) (by omega) (by simp; omega) (w.heap.size + 1) (by simp) ?_; intro gg cap w3 ho3 hg3 hat3 hlt3; have hgg := (gr_alloc (World.grownBy.refl w _)).trans hg3; have f3 := (hgg.frozen_far ⟨gs, 1, none⟩ hlt (fun e => q2 e.symm)).trans fz; have k3 : ∃ v, w3.cell? ⟨gs, 1, none⟩ = some v := ⟨_, hgg.cell k1 (fun e => q2 e.symm)⟩; obtain ⟨v3, k3⟩ := k3))
    go_ret
    refine ⟨retI E0.out.symm, ⟨⟨A1, n1, c1, some ⟨gg, 0, none⟩, n2 + 1, cap, A3, n3, c3⟩, ?_⟩, ?_⟩
    · rw [EX.out]
      exact HP.out _ _ _ (w.heap.size + 1) hgg (by omega) hat3 (by simpa [encS] using ho3)
    · refine bl_set hg0 ?_
      exact ((Below.refl B0 w).alloc (by omega) _).grown hg3 (by simp; omega) (fun b hb => by have := (hlr.out b hb).1; omega)
  · have hcase : ∃ f : Int, f ≠ 0 ∧ Hid (rmF x.st x.rm z = f) := by
      refine ⟨_, ?_, rfl⟩
      rw [E.out]
      cases p1 <;> cases p2 <;> simp_all
    cases p1 <;> cases p2 <;> first | (exact absurd ⟨rfl, rfl⟩ hall) | skip
    all_goals
      obtain ⟨f, hf, F⟩ := hcase
      clear hall
      go_enter Try.func87, Try.ntmps87
      go_wp2_with (first | (go_at_call 37; (with_reducible refine h1.mono ?_); rintro r w1 ⟨rfl, e⟩; replace e := e.symm; subst e) | (go_at_call 37; (with_reducible refine h2.mono ?_); rintro r w2 ⟨rfl, e⟩; replace e := e.symm; subst e))
      go_ret
      exact ⟨retI (by rw [E.out]; simp), ⟨_, by rw [EA.out, if_neg (by rw [F.out]; exact hf)]; exact Hh.out⟩, Below.refl _ _⟩
end Go.Proofs.Ytmanbpobdaamfaa
