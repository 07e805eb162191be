/-
  FS: texts SOk, SAdd, SWay, STube, one behind the other. No condition but what each says.
-/
import Derived.Test.YtcgkcfmiabninaaGreatDoorFS02
import Derived.StillTailTactics
import Derived.Deep.RegionLaw
/-
  Schemes: when one is valid; a scheme of one's own behind a pointer; names and ways in lists. No condition.
-/
namespace Go.Proofs.YtcgkcfmiabninaaGreatDoor
open Go.RowKit
set_option maxHeartbeats 400000

def hasS (l : List ByteArray) (z : ByteArray) : Bool := l.any fun y => decide (y = z)
def wayIs (f t : ByteArray) (x : Way) : Bool := decide (x.fr = f) && decide (x.«to» = t)
def hasW (l : List Way) (f t : ByteArray) : Bool := l.any (wayIs f t)
/-- the faults of a station, a room, a way that is added -/
def stF (ss : List ByteArray) (z : ByteArray) : Int := if nameB z then if hasS ss z then 5 else if ss.length < 20 then 0 else 8 else 3
def rmF (ss rs : List ByteArray) (z : ByteArray) : Int := if hasS ss z then if hasS rs z then 5 else 0 else 6
def wyF (ss : List ByteArray) (ws : List Way) (x : Way) : Int :=
  if hasS ss x.fr then if hasS ss x.«to» then if x.fr = x.«to» then 7 else if inR x.metres 1 2000 then if hasW ws x.fr x.«to» then 5 else if ws.length < 60 then 0 else 8 else 4 else 6 else 6
def okL {α : Type} (f : List α → α → Int) : List α → List α → Bool
  | _, [] => true
  | p, x :: r => decide (f p x = 0) && okL f (p ++ [x]) r
def validX (x : Sch) : Bool := okL stF [] x.st && (okL (rmF x.st) [] x.rm && okL (wyF x.st) [] x.wy)
theorem okL_at {α : Type} {f : List α → α → Int} {xs : List α} {k : Nat} {x : α} (h : xs[k]? = some x) :
    okL f (xs.take k) (xs.drop k) = (decide (f (xs.take k) x = 0) && okL f (xs.take (k + 1)) (xs.drop (k + 1))) := by
  rw [drop_at h, okL, take_at h]
theorem okL_end {α : Type} {f : List α → α → Int} {xs : List α} {k : Nat} (h : xs.length ≤ k) : okL f (xs.take k) (xs.drop k) = true := by
  rw [List.drop_of_length_le h]; rfl
theorem stF_zero {ss : List ByteArray} {z : ByteArray} (h : stF ss z = 0) : ss.length < 20 := by
  unfold stF at h
  split at h
  · split at h
    · omega
    · split at h
      · assumption
      · omega
  · omega
theorem wyF_zero {ss : List ByteArray} {ws : List Way} {x : Way} (h : wyF ss ws x = 0) : ws.length < 60 ∧ 1 ≤ x.metres ∧ x.metres ≤ 2000 := by
  unfold wyF at h
  split at h
  · split at h
    · split at h
      · omega
      · split at h
        · rename_i hm
          split at h
          · omega
          · split at h
            · simp [inR] at hm; exact ⟨by assumption, hm⟩
            · omega
        · omega
    · omega
  · omega

/-- a scheme of one's own in block gs -/
structure XAt (w : World) (gs lo : Nat) (s : SV) (x : Sch) : Prop where
  k0 : w.cell? ⟨gs, 0, none⟩ = some (.slice s.A1 s.n1 s.c1)
  k1 : w.cell? ⟨gs, 1, none⟩ = some (.slice s.A2 s.n2 s.c2)
  k2 : w.cell? ⟨gs, 2, none⟩ = some (.slice s.A3 s.n3 s.c3)
  f0 : w.frozen? ⟨gs, 0, none⟩ = false
  f1 : w.frozen? ⟨gs, 1, none⟩ = false
  f2 : w.frozen? ⟨gs, 2, none⟩ = false
  own : OwnX w lo s x
  o1 : (Value.slice s.A1 s.n1 s.c1).ownBlock ≠ some gs
  o2 : (Value.slice s.A2 s.n2 s.c2).ownBlock ≠ some gs
  o3 : (Value.slice s.A3 s.n3 s.c3).ownBlock ≠ some gs
theorem XAt.lt {w : World} {gs lo : Nat} {s : SV} {x : Sch} (h : XAt w gs lo s x) : gs < w.heap.size := World.block_lt_of_cell? _ _ h.k0
theorem XAt.below {w w' : World} {gs lo : Nat} {s : SV} {x : Sch} (h : XAt w gs lo s x) (hb : Below w.heap.size w w') : XAt w' gs lo s x :=
  ⟨below_cell h.k0 hb, below_cell h.k1 hb, below_cell h.k2 hb, below_frz h.k0 h.f0 hb, below_frz h.k1 h.f1 hb, below_frz h.k2 h.f2 hb, h.own.below hb, h.o1, h.o2, h.o3⟩
theorem XAt.len {w : World} {gs lo : Nat} {s : SV} {x : Sch} (h : XAt w gs lo s x) : s.n1 = x.st.length ∧ s.n2 = x.rm.length ∧ s.n3 = x.wy.length :=
  ⟨own_len encS_len (by omega) h.own.st, own_len encS_len (by omega) h.own.rm, own_len encWay_len (by omega) h.own.wy⟩

theorem IndexS_any (A : Option Addr) (n c : Nat) (xs : List ByteArray) (z : ByteArray) (w : World) (B : Nat) (hn : n ≤ 2000000) (hx : Sl w B 1 encS A n xs) :
    Calls Tryz.prog 86 #[.slice A n c, .string z] w fun r w' => r = .returned (.int .i64 (findFrom (fun y => decide (y = z)) 0 xs)) ∧ w' = w := by
  go_enter Tryz.func86, Tryz.ntmps86
  go_wp2
  go_loop [5, 8] (fun _ i => ∃ k : Nat, k ≤ n ∧ i = .int .i64 k ∧ Hid (findFrom (fun y => decide (y = z)) 0 xs = findFrom (fun y => decide (y = z)) k (xs.drop k))) (fun _ i => n - (intOf i).toNat)
  case atStart => exact ⟨0, Nat.zero_le _, rfl, hid rfl⟩
  case round =>
    obtain ⟨k, hk, rfl, he⟩ := hrel
    by_cases hlt : k < n
    · obtain ⟨y, b, off, Hy, rfl, hbB, c0⟩ := hx.str hlt
      have he2 := he.out
      rw [drop_at Hy.out, findFrom] at he2
      clear he hx
      by_cases q : y = z
      · rw [if_pos (decide_eq_true q)] at he2
        have He2 := hid he2
        have q1 := bs_in q
        have q2 := bs_in q.symm
        subst q
        clear he2
        go_wp2
        go_ret
        exact ⟨retI He2.out.symm, rfl⟩
      · rw [if_neg (by simpa using q)] at he2
        have He2 := hid he2
        have q1 := bs_ne q
        have q2 := bs_ne (Ne.symm q)
        clear he2 q
        go_wp2
        go_round
        case rel => exact ⟨k + 1, by omega, by go_num, He2⟩
        case measure => simp [intOf]; omega
    · have : k = n := by omega
      subst this
      have he2 := he.out
      rw [List.drop_of_length_le (by rw [hx.len]; omega), findFrom] at he2
      have He2 := hid he2
      clear he he2
      go_wp2
      go_ret
      exact ⟨retI He2.out.symm, rfl⟩
theorem ContainsS_any (A : Option Addr) (n c : Nat) (xs : List ByteArray) (z : ByteArray) (w : World) (B : Nat) (hn : n ≤ 2000000) (hx : Sl w B 1 encS A n xs) :
    Calls Tryz.prog 72 #[.slice A n c, .string z] w fun r w' => r = .returned (.bool (hasS xs z)) ∧ w' = w := by
  unfold hasS
  rw [← findFrom_any _ xs 0]
  have hc := IndexS_any A n c xs z w B hn hx
  generalize findFrom (fun y => decide (y = z)) 0 xs = r at hc
  clear hx
  go_enter Tryz.func72, Tryz.ntmps72
  go_wp2_with (go_at_call 86; refine hc.mono ?_; rintro e w' ⟨rfl, rfl⟩)
  go_ret
  exact ⟨rfl, rfl⟩
theorem hasStation_any (gs : Nat) (A : Option Addr) (n c : Nat) (xs : List ByteArray) (z : ByteArray) (w : World) (B : Nat) (hn : n ≤ 2000000) (hx : Sl w B 1 encS A n xs) (k0 : w.cell? ⟨gs, 0, none⟩ = some (.slice A n c)) :
    Calls Tryz.prog 71 #[.pointer (some ⟨gs, 0, none⟩), .string z] w fun r w' => r = .returned (.bool (hasS xs z)) ∧ w' = w := by
  have hc := ContainsS_any A n c xs z w B hn hx
  clear hx
  go_enter Tryz.func71, Tryz.ntmps71
  go_wp2_with (go_at_call 72; refine hc.mono ?_; rintro e w' ⟨rfl, rfl⟩)
  go_ret
  exact ⟨rfl, rfl⟩
theorem l21Has_any (A : Option Addr) (n c : Nat) (xs : List ByteArray) (z : ByteArray) (w : World) (B : Nat) (hn : n ≤ 2000000) (hx : Sl w B 1 encS A n xs) :
    Calls Tryz.prog 75 #[.slice A n c, .string z] w fun r w' => r = .returned (.bool (hasS xs z)) ∧ w' = w := by
  go_enter Tryz.func75, Tryz.ntmps75
  go_wp2
  go_loop [5] (fun i => ∃ k : Nat, k ≤ n ∧ i = .int .i64 k ∧ Hid (hasS xs z = hasS (xs.drop k) z)) (fun i => n - (intOf i).toNat)
  case atStart => exact ⟨0, Nat.zero_le _, rfl, hid rfl⟩
  case round =>
    obtain ⟨k, hk, rfl, he⟩ := hrel
    by_cases hlt : k < n
    · obtain ⟨y, b, off, Hy, rfl, hbB, c0⟩ := hx.str hlt
      have he2 := he.out
      rw [drop_at Hy.out] at he2
      clear he hx
      by_cases q : y = z
      · have He2 : Hid (hasS xs z = true) := by rw [he2]; simp [Hid, hasS, q]
        have q1 := bs_in q
        subst q
        clear he2
        go_wp2
        go_ret
        exact ⟨retB He2.out.symm, rfl⟩
      · have He2 : Hid (hasS xs z = hasS (xs.drop (k + 1)) z) := by rw [he2]; simp [Hid, hasS, q]
        have q1 := bs_ne q
        clear he2 q
        go_wp2
        go_round
        case rel => exact ⟨k + 1, by omega, by go_num, He2⟩
        case measure => simp [intOf]; omega
    · have : k = n := by omega
      subst this
      have he2 := he.out
      rw [List.drop_of_length_le (by rw [hx.len]; omega)] at he2
      have He2 := hid he2
      clear he he2
      go_wp2
      go_ret
      exact ⟨retB (by rw [He2.out]; rfl), rfl⟩
theorem IndexFunc_Way (g : Nat) (caps : Array Value) (p : Way → Bool) (eg : ∀ args w, (callFunc g args).run Tryz.prog w = .ok (.enter g args) w) (A : Option Addr) (n c : Nat) (xs : List Way) (w : World) (B : Nat) (hB : B ≤ w.heap.size) (hn : n ≤ 140737488355328)
    (hx : Sl w B 3 encWay A n xs) (hp : ∀ (W : World) (x y : ByteArray) (m : Int), (⟨x, y, m⟩ : Way) ∈ xs → Below w.heap.size w W → Calls Tryz.prog g (#[.agg #[.string x, .string y, .int .i64 m]] ++ caps) W fun e w' => e = .returned (.bool (p ⟨x, y, m⟩)) ∧ Below W.heap.size W w') :
    Calls Tryz.prog 102 #[.slice A n c, .func (.func g) #[] caps] w fun e w' => e = .returned (.int .i64 (findFrom p 0 xs)) ∧ Below w.heap.size w w' := by
  go_enter Tryz.func102, Tryz.ntmps102
  go_wp2
  go_loopw [5, 8] (fun _ i w1 => ∃ k : Nat, k ≤ n ∧ i = .int .i64 k ∧ Hid (findFrom p 0 xs = findFrom p k (xs.drop k)) ∧ Below w.heap.size w w1) (fun _ i _ => n - (intOf i).toNat)
  case atStart => exact ⟨0, Nat.zero_le _, rfl, hid rfl, Below.refl _ _⟩
  case round =>
    obtain ⟨k, hk, rfl, he, hb⟩ := hrel
    by_cases hlt : k < n
    · obtain ⟨x, y, m, b, off, Hx, rfl, hbB, c0, c1, c2⟩ := (hx.below (hb.mono hB)).atWay hlt
      have hcall := hp wr x y m (List.mem_of_getElem? Hx.out) hb
      have he2 := he.out
      rw [drop_at Hx.out, findFrom] at he2
      clear hp hx
      cases hq : p ⟨x, y, m⟩ with
      | true =>
        rw [hq] at hcall
        rw [hq, if_pos rfl] at he2
        have He2 := hid he2
        clear he2 hq
        go_wp2_with (go_at_fn g; refine hcall.mono ?_; rintro e w' ⟨rfl, hb'⟩)
        go_ret
        exact ⟨retI He2.out.symm, hb.trans (hb'.mono hb.size)⟩
      | false =>
        rw [hq] at hcall
        rw [hq, if_neg (by simp)] at he2
        have He2 := hid he2
        clear he2 hq
        go_wp2_with (go_at_fn g; refine hcall.mono ?_; rintro e w' ⟨rfl, hb'⟩)
        have hb2 := hb.trans (hb'.mono hb.size)
        go_roundw
        all_goals first | exact ⟨k + 1, by omega, by go_num, He2, hb2⟩ | exact ⟨⟨k + 1, by omega, by go_num, He2, hb2⟩, by simp [intOf]; omega⟩ | (simp [intOf]; omega)
    · have : k = n := by omega
      subst this
      have he2 := he.out
      rw [List.drop_of_length_le (by rw [hx.len]; omega), findFrom] at he2
      have He2 := hid he2
      clear he2
      go_wp2
      go_ret
      exact ⟨retI He2.out.symm, hb⟩
theorem ContainsFunc_Way (g : Nat) (caps : Array Value) (p : Way → Bool) (eg : ∀ args w, (callFunc g args).run Tryz.prog w = .ok (.enter g args) w) (A : Option Addr) (n c : Nat) (xs : List Way) (w : World) (B : Nat) (hB : B ≤ w.heap.size) (hn : n ≤ 140737488355328)
    (hx : Sl w B 3 encWay A n xs) (hp : ∀ (W : World) (x y : ByteArray) (m : Int), (⟨x, y, m⟩ : Way) ∈ xs → Below w.heap.size w W → Calls Tryz.prog g (#[.agg #[.string x, .string y, .int .i64 m]] ++ caps) W fun e w' => e = .returned (.bool (p ⟨x, y, m⟩)) ∧ Below W.heap.size W w') :
    Calls Tryz.prog 87 #[.slice A n c, .func (.func g) #[] caps] w fun e w' => e = .returned (.bool (xs.any p)) ∧ Below w.heap.size w w' := by
  rw [← findFrom_any p xs 0]
  have hc := IndexFunc_Way g caps p eg A n c xs w B hB hn hx hp
  generalize findFrom p 0 xs = r at hc
  clear hp hx
  go_enter Tryz.func87, Tryz.ntmps87
  go_wp2_with (go_at_call 102; refine hc.mono ?_; rintro e w' ⟨rfl, hb⟩)
  go_ret
  exact ⟨rfl, hb⟩
end Go.Proofs.YtcgkcfmiabninaaGreatDoor
/-
  Schemes of one's own: a station, a room is added. No condition.
-/
namespace Go.Proofs.YtcgkcfmiabninaaGreatDoor
open Go.RowKit
set_option maxHeartbeats 400000
theorem XAt.put1 {w w3 : World} {gs lo : Nat} {s : SV} {x : Sch} (h : XAt w gs lo s x) {z : ByteArray} {gg cap H : Nat} (hg : w.grownBy w3 (Value.slice s.A1 s.n1 s.c1).ownBlock) (hH : w.heap.size ≤ H) (hat : (Value.slice s.A1 s.n1 s.c1).ownBlock = some gg ∨ gg = H)
    (ho : w3.ownsRow lo 9 1 (.slice (some ⟨gg, 0, none⟩) (s.n1 + 1) cap) (s.n1 + 1) ((x.st ++ [z]).flatMap encS)) :
    XAt (w3.setCell ⟨gs, 0, none⟩ (.slice (some ⟨gg, 0, none⟩) (s.n1 + 1) cap)) gs lo ⟨some ⟨gg, 0, none⟩, s.n1 + 1, cap, s.A2, s.n2, s.c2, s.A3, s.n3, s.c3⟩ ⟨x.st ++ [z], x.rm, x.wy⟩ := by
  have hlt := h.lt
  have hgg : (Value.slice (some ⟨gg, 0, none⟩) (s.n1 + 1) cap).ownBlock ≠ some gs := fun e => by
    have e2 : gg = gs := by simpa [Value.ownBlock] using e
    rcases hat with h1 | h1
    · exact h.o1 (by rw [h1, e2])
    · omega
  have q0 := hg.cell h.k0 (fun e => h.o1 e.symm)
  have q1 := hg.cell h.k1 (fun e => h.o1 e.symm)
  have q2 := hg.cell h.k2 (fun e => h.o1 e.symm)
  have g0 := (hg.frozen_far ⟨gs, 0, none⟩ hlt (fun e => h.o1 e.symm)).trans h.f0
  have g1 := (hg.frozen_far ⟨gs, 1, none⟩ hlt (fun e => h.o1 e.symm)).trans h.f1
  have g2 := (hg.frozen_far ⟨gs, 2, none⟩ hlt (fun e => h.o1 e.symm)).trans h.f2
  have n2 : ∀ b, (Value.slice (some ⟨gg, 0, none⟩) (s.n1 + 1) cap).ownBlock = some b → (Value.slice s.A2 s.n2 s.c2).ownBlock ≠ some b := fun b hb e => by
    have e2 : gg = b := by simpa [Value.ownBlock] using hb
    subst e2
    rcases hat with h1 | h1
    · exact h.own.ap12 _ h1 e
    · have := (h.own.rm.lt _ e).2; omega
  have n3 : ∀ b, (Value.slice (some ⟨gg, 0, none⟩) (s.n1 + 1) cap).ownBlock = some b → (Value.slice s.A3 s.n3 s.c3).ownBlock ≠ some b := fun b hb e => by
    have e2 : gg = b := by simpa [Value.ownBlock] using hb
    subst e2
    rcases hat with h1 | h1
    · exact h.own.ap13 _ h1 e
    · have := (h.own.wy.lt _ e).2; omega
  refine ⟨World.cell?_setCell_same _ _ _ q0, (World.cell?_setCell_other _ _ _ _ (by simp)).trans q1, (World.cell?_setCell_other _ _ _ _ (by simp)).trans q2, by simpa using g0, by simpa using g1, by simpa using g2, ⟨ow_set hgg ho, ow_set h.o2 (own_keep h.own.rm (v2 := (.slice s.A1 s.n1 s.c1)) h.own.ap12 hg), ow_set h.o3 (own_keep h.own.wy (v2 := (.slice s.A1 s.n1 s.c1)) h.own.ap13 hg), n2, n3, h.own.ap23⟩, hgg, h.o2, h.o3⟩
theorem XAt.put2 {w w3 : World} {gs lo : Nat} {s : SV} {x : Sch} (h : XAt w gs lo s x) {z : ByteArray} {gg cap H : Nat} (hg : w.grownBy w3 (Value.slice s.A2 s.n2 s.c2).ownBlock) (hH : w.heap.size ≤ H) (hat : (Value.slice s.A2 s.n2 s.c2).ownBlock = some gg ∨ gg = H)
    (ho : w3.ownsRow lo 9 1 (.slice (some ⟨gg, 0, none⟩) (s.n2 + 1) cap) (s.n2 + 1) ((x.rm ++ [z]).flatMap encS)) :
    XAt (w3.setCell ⟨gs, 1, none⟩ (.slice (some ⟨gg, 0, none⟩) (s.n2 + 1) cap)) gs lo ⟨s.A1, s.n1, s.c1, some ⟨gg, 0, none⟩, s.n2 + 1, cap, s.A3, s.n3, s.c3⟩ ⟨x.st, x.rm ++ [z], x.wy⟩ := by
  have hlt := h.lt
  have hgg : (Value.slice (some ⟨gg, 0, none⟩) (s.n2 + 1) cap).ownBlock ≠ some gs := fun e => by
    have e2 : gg = gs := by simpa [Value.ownBlock] using e
    rcases hat with h1 | h1
    · exact h.o2 (by rw [h1, e2])
    · omega
  have q0 := hg.cell h.k0 (fun e => h.o2 e.symm)
  have q1 := hg.cell h.k1 (fun e => h.o2 e.symm)
  have q2 := hg.cell h.k2 (fun e => h.o2 e.symm)
  have g0 := (hg.frozen_far ⟨gs, 0, none⟩ hlt (fun e => h.o2 e.symm)).trans h.f0
  have g1 := (hg.frozen_far ⟨gs, 1, none⟩ hlt (fun e => h.o2 e.symm)).trans h.f1
  have g2 := (hg.frozen_far ⟨gs, 2, none⟩ hlt (fun e => h.o2 e.symm)).trans h.f2
  have n1 : ∀ b, (Value.slice (some ⟨gg, 0, none⟩) (s.n2 + 1) cap).ownBlock = some b → (Value.slice s.A1 s.n1 s.c1).ownBlock ≠ some b := fun b hb e => by
    have e2 : gg = b := by simpa [Value.ownBlock] using hb
    subst e2
    rcases hat with h1 | h1
    · exact (fun b hb e => h.own.ap12 b e hb) _ h1 e
    · have := (h.own.st.lt _ e).2; omega
  have n3 : ∀ b, (Value.slice (some ⟨gg, 0, none⟩) (s.n2 + 1) cap).ownBlock = some b → (Value.slice s.A3 s.n3 s.c3).ownBlock ≠ some b := fun b hb e => by
    have e2 : gg = b := by simpa [Value.ownBlock] using hb
    subst e2
    rcases hat with h1 | h1
    · exact h.own.ap23 _ h1 e
    · have := (h.own.wy.lt _ e).2; omega
  refine ⟨(World.cell?_setCell_other _ _ _ _ (by simp)).trans q0, World.cell?_setCell_same _ _ _ q1, (World.cell?_setCell_other _ _ _ _ (by simp)).trans q2, by simpa using g0, by simpa using g1, by simpa using g2, ⟨ow_set h.o1 (own_keep h.own.st (v2 := (.slice s.A2 s.n2 s.c2)) (fun b hb e => h.own.ap12 b e hb) hg), ow_set hgg ho, ow_set h.o3 (own_keep h.own.wy (v2 := (.slice s.A2 s.n2 s.c2)) h.own.ap23 hg), (fun b hb e => n1 b e hb), h.own.ap13, n3⟩, h.o1, hgg, h.o3⟩
theorem XAt.put3 {w w3 : World} {gs lo : Nat} {s : SV} {x : Sch} (h : XAt w gs lo s x) {z : Way} {gg cap H : Nat} (hg : w.grownBy w3 (Value.slice s.A3 s.n3 s.c3).ownBlock) (hH : w.heap.size ≤ H) (hat : (Value.slice s.A3 s.n3 s.c3).ownBlock = some gg ∨ gg = H)
    (ho : w3.ownsRow lo 62 3 (.slice (some ⟨gg, 0, none⟩) (s.n3 + 1) cap) (s.n3 + 1) ((x.wy ++ [z]).flatMap encWay)) :
    XAt (w3.setCell ⟨gs, 2, none⟩ (.slice (some ⟨gg, 0, none⟩) (s.n3 + 1) cap)) gs lo ⟨s.A1, s.n1, s.c1, s.A2, s.n2, s.c2, some ⟨gg, 0, none⟩, s.n3 + 1, cap⟩ ⟨x.st, x.rm, x.wy ++ [z]⟩ := by
  have hlt := h.lt
  have hgg : (Value.slice (some ⟨gg, 0, none⟩) (s.n3 + 1) cap).ownBlock ≠ some gs := fun e => by
    have e2 : gg = gs := by simpa [Value.ownBlock] using e
    rcases hat with h1 | h1
    · exact h.o3 (by rw [h1, e2])
    · omega
  have q0 := hg.cell h.k0 (fun e => h.o3 e.symm)
  have q1 := hg.cell h.k1 (fun e => h.o3 e.symm)
  have q2 := hg.cell h.k2 (fun e => h.o3 e.symm)
  have g0 := (hg.frozen_far ⟨gs, 0, none⟩ hlt (fun e => h.o3 e.symm)).trans h.f0
  have g1 := (hg.frozen_far ⟨gs, 1, none⟩ hlt (fun e => h.o3 e.symm)).trans h.f1
  have g2 := (hg.frozen_far ⟨gs, 2, none⟩ hlt (fun e => h.o3 e.symm)).trans h.f2
  have n1 : ∀ b, (Value.slice (some ⟨gg, 0, none⟩) (s.n3 + 1) cap).ownBlock = some b → (Value.slice s.A1 s.n1 s.c1).ownBlock ≠ some b := fun b hb e => by
    have e2 : gg = b := by simpa [Value.ownBlock] using hb
    subst e2
    rcases hat with h1 | h1
    · exact (fun b hb e => h.own.ap13 b e hb) _ h1 e
    · have := (h.own.st.lt _ e).2; omega
  have n2 : ∀ b, (Value.slice (some ⟨gg, 0, none⟩) (s.n3 + 1) cap).ownBlock = some b → (Value.slice s.A2 s.n2 s.c2).ownBlock ≠ some b := fun b hb e => by
    have e2 : gg = b := by simpa [Value.ownBlock] using hb
    subst e2
    rcases hat with h1 | h1
    · exact (fun b hb e => h.own.ap23 b e hb) _ h1 e
    · have := (h.own.rm.lt _ e).2; omega
  refine ⟨(World.cell?_setCell_other _ _ _ _ (by simp)).trans q0, (World.cell?_setCell_other _ _ _ _ (by simp)).trans q1, World.cell?_setCell_same _ _ _ q2, by simpa using g0, by simpa using g1, by simpa using g2, ⟨ow_set h.o1 (own_keep h.own.st (v2 := (.slice s.A3 s.n3 s.c3)) (fun b hb e => h.own.ap13 b e hb) hg), ow_set h.o2 (own_keep h.own.rm (v2 := (.slice s.A3 s.n3 s.c3)) (fun b hb e => h.own.ap23 b e hb) hg), ow_set hgg ho, h.own.ap12, (fun b hb e => n1 b e hb), (fun b hb e => n2 b e hb)⟩, h.o1, h.o2, hgg⟩

def addSt (x : Sch) (z : ByteArray) : Sch := if stF x.st z = 0 then ⟨x.st ++ [z], x.rm, x.wy⟩ else x
def addRm (x : Sch) (z : ByteArray) : Sch := if rmF x.st x.rm z = 0 then ⟨x.st, x.rm ++ [z], x.wy⟩ else x
def addWy (x : Sch) (z : Way) : Sch := if wyF x.st x.wy z = 0 then ⟨x.st, x.rm, x.wy ++ [z]⟩ else x
/-- what adding leaves -/
def AddPost (gs lo B0 : Nat) (w : World) (f : Int) (x : Sch) (r : Ending) (w' : World) : Prop :=
  r = .returned (.int .i64 f) ∧ (∃ s, XAt w' gs lo s x) ∧ Below B0 w w'

set_option maxHeartbeats 2000000 in
set_option maxRecDepth 100000 in
theorem addStation_any (gs lo B0 : Nat) (s : SV) (x : Sch) (z : ByteArray) (w : World) (hg0 : B0 ≤ gs) (hlo : B0 ≤ lo) (hlw : lo ≤ w.heap.size) (hz : z.size ≤ 9223372036854775807) (hl : x.st.length ≤ 20) (h : XAt w gs lo s x) :
    Calls Tryz.prog 54 #[.pointer (some ⟨gs, 0, none⟩), .string z] w (AddPost gs lo B0 w (stF x.st z) (addSt x z)) := by
  obtain ⟨A1, n1, c1, A2, n2, c2, A3, n3, c3⟩ := s
  obtain ⟨ln1, ln2, ln3⟩ := h.len
  simp only at ln1 ln2 ln3
  have k0 := h.k0
  have k1 := h.k1
  simp only at k0 k1
  have hsl := h.own.sl
  have hlt := h.lt
  have h1 := hasStation_any gs A1 n1 c1 x.st z w _ (by omega) hsl.st k0
  have h0 := implIsName_any z w hz
  have E := hid (show stF x.st z = if nameB z then if hasS x.st z then 5 else if x.st.length < 20 then 0 else 8 else 3 from rfl)
  have EA := hid (show addSt x z = if stF x.st z = 0 then ⟨x.st ++ [z], x.rm, x.wy⟩ else x from rfl)
  have Ln := hid ln1
  rw [← ln1] at E
  generalize nameB z = p0 at h0 E
  generalize hasS x.st z = p1 at h1 E
  have hr := h.own.st
  simp only at hr
  obtain ⟨i0, hi, hz0, hz1, hz2⟩ := info_parts str_info
  have hp := fun (W : World) (gg cap H : Nat) => h.put1 (w3 := W) (z := z) (gg := gg) (cap := cap) (H := H)
  simp only at hp
  have q1 : (Value.slice A1 n1 c1).ownBlock ≠ some gs := h.o1
  have hn20 : n1 ≤ 20 := by omega
  have Hh := hid h
  have hlr := hid hr.lt
  have HP := hid hp
  have fz := h.f0
  clear h ln1 ln2 ln3 hsl hp
  by_cases hall : (p0 = true ∧ p1 = false) ∧ n1 < 20
  · obtain ⟨⟨rfl, rfl⟩, hlt20⟩ := hall
    have hne : ((n1 : Int) == 20) = false := by simp; omega
    have E0 : Hid (stF x.st z = 0) := by rw [Hid, E.out]; simp; omega
    have EX : Hid (addSt x z = ⟨x.st ++ [z], x.rm, x.wy⟩) := by rw [Hid, EA.out, if_pos E0.out]
    clear E EA
    go_enter Tryz.func54, Tryz.ntmps54
    go_wp2_with (first | (go_at_call 70; refine h0.mono ?_; rintro r w0 ⟨rfl, e⟩; replace e := e.symm; subst e) | (go_at_call 71; refine h1.mono ?_; rintro r w1 ⟨rfl, e⟩; replace e := e.symm; subst e) | (at_builtin; refine wpList_append_lies _ rfl _ _ 22 rfl lo 9 i0 (.string ByteArray.empty) 1 16 Tryz.underlying22 hi hz0 hz1 hz2 rfl (by omega) (.slice A1 n1 c1) n1 (x.st.flatMap encS) rfl (hr.alloc _) ⟨w.heap.size, 0, none⟩ 1 1 [.string z] rfl rfl (World.news_of_block (cs := #[.string z]) (t := 9) (fr := (0, 0)) (heap_alloc_new w _)) (by simp [Value.oneCell']) (by omega) (by simp only [maxLen]; omega) (by omega) (by simp; omega) (w.heap.size + 1) (by simp) ?_; intro gg cap w3 ho3 hg3 hat3 hlt3; have hgg := (gr_alloc (World.grownBy.refl w _)).trans hg3; have f3 := (hgg.frozen_far ⟨gs, 0, none⟩ hlt (fun e => q1 e.symm)).trans fz; have k3 : ∃ v, w3.cell? ⟨gs, 0, none⟩ = some v := ⟨_, hgg.cell k0 (fun e => q1 e.symm)⟩; obtain ⟨v3, k3⟩ := k3))
    go_ret
    refine ⟨retI E0.out.symm, ⟨⟨some ⟨gg, 0, none⟩, n1 + 1, cap, A2, n2, c2, A3, n3, c3⟩, ?_⟩, ?_⟩
    · rw [EX.out]
      exact HP.out _ _ _ (w.heap.size + 1) hgg (by omega) hat3 (by simpa [encS] using ho3)
    · refine bl_set hg0 ?_
      exact ((Below.refl B0 w).alloc (by omega) _).grown hg3 (by simp; omega) (fun b hb => by have := (hlr.out b hb).1; omega)
  · have hcase : ∃ f : Int, f ≠ 0 ∧ Hid (stF x.st z = f) := by
      refine ⟨_, ?_, rfl⟩
      rw [E.out]
      cases p0 <;> cases p1 <;> first | (simp; done) | (simp at hall ⊢; omega)
    by_cases hlt20 : n1 < 20
    · have hne : ((n1 : Int) == 20) = false := by simp; omega
      cases p0 <;> cases p1 <;> first | (exact absurd ⟨⟨rfl, rfl⟩, hlt20⟩ hall) | skip
      all_goals
        obtain ⟨f, hf, F⟩ := hcase
        clear hall
        go_enter Tryz.func54, Tryz.ntmps54
        go_wp2_with (first | (go_at_call 70; refine h0.mono ?_; rintro r w0 ⟨rfl, e⟩; replace e := e.symm; subst e) | (go_at_call 71; refine h1.mono ?_; rintro r w1 ⟨rfl, e⟩; replace e := e.symm; subst e))
        go_ret
        exact ⟨retI (by rw [E.out]; simp), ⟨_, by rw [EA.out, if_neg (by rw [F.out]; exact hf)]; exact Hh.out⟩, Below.refl _ _⟩
    · have hne : ((n1 : Int) == 20) = true := by simp; omega
      have hge : ¬ ((n1 : Int) < 20) := by omega
      clear hall
      cases p0 <;> cases p1
      all_goals
        obtain ⟨f, hf, F⟩ := hcase
        have Hlt := hid hlt20
        go_enter Tryz.func54, Tryz.ntmps54
        go_wp2_with (first | (go_at_call 70; refine h0.mono ?_; rintro r w0 ⟨rfl, e⟩; replace e := e.symm; subst e) | (go_at_call 71; refine h1.mono ?_; rintro r w1 ⟨rfl, e⟩; replace e := e.symm; subst e))
        go_ret
        exact ⟨retI (by rw [E.out]; simp [Hlt.out]), ⟨_, by rw [EA.out, if_neg (by rw [F.out]; exact hf)]; exact Hh.out⟩, Below.refl _ _⟩
set_option maxHeartbeats 2000000 in
set_option maxRecDepth 100000 in
theorem l21Station_any (gs lo B0 : Nat) (s : SV) (x : Sch) (z : ByteArray) (w : World) (hg0 : B0 ≤ gs) (hlo : B0 ≤ lo) (hlw : lo ≤ w.heap.size) (hz : z.size ≤ 9223372036854775807) (hl : x.st.length ≤ 20) (h : XAt w gs lo s x) :
    Calls Tryz.prog 58 #[.pointer (some ⟨gs, 0, none⟩), .string z] w (AddPost gs lo B0 w (stF x.st z) (addSt x z)) := by
  obtain ⟨A1, n1, c1, A2, n2, c2, A3, n3, c3⟩ := s
  obtain ⟨ln1, ln2, ln3⟩ := h.len
  simp only at ln1 ln2 ln3
  have k0 := h.k0
  have k1 := h.k1
  simp only at k0 k1
  have hsl := h.own.sl
  have hlt := h.lt
  have h1 := l21Has_any A1 n1 c1 x.st z w _ (by omega) hsl.st
  have h0 := specIsName_any z w hz
  have E := hid (show stF x.st z = if nameB z then if hasS x.st z then 5 else if x.st.length < 20 then 0 else 8 else 3 from rfl)
  have EA := hid (show addSt x z = if stF x.st z = 0 then ⟨x.st ++ [z], x.rm, x.wy⟩ else x from rfl)
  have Ln := hid ln1
  rw [← ln1] at E
  generalize nameB z = p0 at h0 E
  generalize hasS x.st z = p1 at h1 E
  have hr := h.own.st
  simp only at hr
  obtain ⟨i0, hi, hz0, hz1, hz2⟩ := info_parts str_info
  have hp := fun (W : World) (gg cap H : Nat) => h.put1 (w3 := W) (z := z) (gg := gg) (cap := cap) (H := H)
  simp only at hp
  have q1 : (Value.slice A1 n1 c1).ownBlock ≠ some gs := h.o1
  have hn20 : n1 ≤ 20 := by omega
  have Hh := hid h
  have hlr := hid hr.lt
  have HP := hid hp
  have fz := h.f0
  clear h ln1 ln2 ln3 hsl hp
  by_cases hall : (p0 = true ∧ p1 = false) ∧ n1 < 20
  · obtain ⟨⟨rfl, rfl⟩, hlt20⟩ := hall
    have hne : ((n1 : Int) == 20) = false := by simp; omega
    have E0 : Hid (stF x.st z = 0) := by rw [Hid, E.out]; simp; omega
    have EX : Hid (addSt x z = ⟨x.st ++ [z], x.rm, x.wy⟩) := by rw [Hid, EA.out, if_pos E0.out]
    clear E EA
    go_enter Tryz.func58, Tryz.ntmps58
    go_wp2_with (first | (go_at_call 74; refine h0.mono ?_; rintro r w0 ⟨rfl, e⟩; replace e := e.symm; subst e) | (go_at_call 75; refine h1.mono ?_; rintro r w1 ⟨rfl, e⟩; replace e := e.symm; subst e) | (at_builtin; refine wpList_append_lies _ rfl _ _ 22 rfl lo 9 i0 (.string ByteArray.empty) 1 16 Tryz.underlying22 hi hz0 hz1 hz2 rfl (by omega) (.slice A1 n1 c1) n1 (x.st.flatMap encS) rfl (hr.alloc _) ⟨w.heap.size, 0, none⟩ 1 1 [.string z] rfl rfl (World.news_of_block (cs := #[.string z]) (t := 9) (fr := (0, 0)) (heap_alloc_new w _)) (by simp [Value.oneCell']) (by omega) (by simp only [maxLen]; omega) (by omega) (by simp; omega) (w.heap.size + 1) (by simp) ?_; intro gg cap w3 ho3 hg3 hat3 hlt3; have hgg := (gr_alloc (World.grownBy.refl w _)).trans hg3; have f3 := (hgg.frozen_far ⟨gs, 0, none⟩ hlt (fun e => q1 e.symm)).trans fz; have k3 : ∃ v, w3.cell? ⟨gs, 0, none⟩ = some v := ⟨_, hgg.cell k0 (fun e => q1 e.symm)⟩; obtain ⟨v3, k3⟩ := k3))
    go_ret
    refine ⟨retI E0.out.symm, ⟨⟨some ⟨gg, 0, none⟩, n1 + 1, cap, A2, n2, c2, A3, n3, c3⟩, ?_⟩, ?_⟩
    · rw [EX.out]
      exact HP.out _ _ _ (w.heap.size + 1) hgg (by omega) hat3 (by simpa [encS] using ho3)
    · refine bl_set hg0 ?_
      exact ((Below.refl B0 w).alloc (by omega) _).grown hg3 (by simp; omega) (fun b hb => by have := (hlr.out b hb).1; omega)
  · have hcase : ∃ f : Int, f ≠ 0 ∧ Hid (stF x.st z = f) := by
      refine ⟨_, ?_, rfl⟩
      rw [E.out]
      cases p0 <;> cases p1 <;> first | (simp; done) | (simp at hall ⊢; omega)
    by_cases hlt20 : n1 < 20
    · have hne : ((n1 : Int) == 20) = false := by simp; omega
      cases p0 <;> cases p1 <;> first | (exact absurd ⟨⟨rfl, rfl⟩, hlt20⟩ hall) | skip
      all_goals
        obtain ⟨f, hf, F⟩ := hcase
        clear hall
        go_enter Tryz.func58, Tryz.ntmps58
        go_wp2_with (first | (go_at_call 74; refine h0.mono ?_; rintro r w0 ⟨rfl, e⟩; replace e := e.symm; subst e) | (go_at_call 75; refine h1.mono ?_; rintro r w1 ⟨rfl, e⟩; replace e := e.symm; subst e))
        go_ret
        exact ⟨retI (by rw [E.out]; simp), ⟨_, by rw [EA.out, if_neg (by rw [F.out]; exact hf)]; exact Hh.out⟩, Below.refl _ _⟩
    · have hne : ((n1 : Int) == 20) = true := by simp; omega
      have hge : ¬ ((n1 : Int) < 20) := by omega
      clear hall
      cases p0 <;> cases p1
      all_goals
        obtain ⟨f, hf, F⟩ := hcase
        have Hlt := hid hlt20
        go_enter Tryz.func58, Tryz.ntmps58
        go_wp2_with (first | (go_at_call 74; refine h0.mono ?_; rintro r w0 ⟨rfl, e⟩; replace e := e.symm; subst e) | (go_at_call 75; refine h1.mono ?_; rintro r w1 ⟨rfl, e⟩; replace e := e.symm; subst e))
        go_ret
        exact ⟨retI (by rw [E.out]; simp [Hlt.out]), ⟨_, by rw [EA.out, if_neg (by rw [F.out]; exact hf)]; exact Hh.out⟩, Below.refl _ _⟩
set_option maxHeartbeats 2000000 in
set_option maxRecDepth 100000 in
theorem addRoom_any (gs lo B0 : Nat) (s : SV) (x : Sch) (z : ByteArray) (w : World) (hg0 : B0 ≤ gs) (hlo : B0 ≤ lo) (hlw : lo ≤ w.heap.size) (_hz : z.size ≤ 9223372036854775807) (hl : x.st.length ≤ 20) (hl2 : x.rm.length ≤ 2000000) (h : XAt w gs lo s x) :
    Calls Tryz.prog 55 #[.pointer (some ⟨gs, 0, none⟩), .string z] w (AddPost gs lo B0 w (rmF x.st x.rm z) (addRm x z)) := by
  obtain ⟨A1, n1, c1, A2, n2, c2, A3, n3, c3⟩ := s
  obtain ⟨ln1, ln2, ln3⟩ := h.len
  simp only at ln1 ln2 ln3
  have k0 := h.k0
  have k1 := h.k1
  simp only at k0 k1
  have hsl := h.own.sl
  have hlt := h.lt
  have h1 := hasStation_any gs A1 n1 c1 x.st z w _ (by omega) hsl.st k0
  have h2 := ContainsS_any A2 n2 c2 x.rm z w _ (by omega) hsl.rm
  have E := hid (show rmF x.st x.rm z = if hasS x.st z then if hasS x.rm z then 5 else 0 else 6 from rfl)
  have EA := hid (show addRm x z = if rmF x.st x.rm z = 0 then ⟨x.st, x.rm ++ [z], x.wy⟩ else x from rfl)
  have Ln := hid ln2
  generalize hasS x.st z = p1 at h1 E
  generalize hasS x.rm z = p2 at h2 E
  have hr := h.own.rm
  simp only at hr
  obtain ⟨i0, hi, hz0, hz1, hz2⟩ := info_parts str_info
  have hp := fun (W : World) (gg cap H : Nat) => h.put2 (w3 := W) (z := z) (gg := gg) (cap := cap) (H := H)
  simp only at hp
  have q2 : (Value.slice A2 n2 c2).ownBlock ≠ some gs := h.o2
  have hn20 : n2 ≤ 2000000 := by omega
  have Hh := hid h
  have hlr := hid hr.lt
  have HP := hid hp
  have fz := h.f1
  clear h ln1 ln2 ln3 hsl hp
  by_cases hall : p1 = true ∧ p2 = false
  · obtain ⟨rfl, rfl⟩ := hall
    have E0 : Hid (rmF x.st x.rm z = 0) := by rw [Hid, E.out]; simp
    have EX : Hid (addRm x z = ⟨x.st, x.rm ++ [z], x.wy⟩) := by rw [Hid, EA.out, if_pos E0.out]
    clear E EA
    go_enter Tryz.func55, Tryz.ntmps55
    go_wp2_with (first | (go_at_call 71; refine h1.mono ?_; rintro r w1 ⟨rfl, e⟩; replace e := e.symm; subst e) | (go_at_call 72; refine h2.mono ?_; rintro r w2 ⟨rfl, e⟩; replace e := e.symm; subst e) | (at_builtin; refine wpList_append_lies _ rfl _ _ 22 rfl lo 9 i0 (.string ByteArray.empty) 1 16 Tryz.underlying22 hi hz0 hz1 hz2 rfl (by omega) (.slice A2 n2 c2) n2 (x.rm.flatMap encS) rfl (hr.alloc _) ⟨w.heap.size, 0, none⟩ 1 1 [.string z] rfl rfl (World.news_of_block (cs := #[.string z]) (t := 9) (fr := (0, 0)) (heap_alloc_new w _)) (by simp [Value.oneCell']) (by omega) (by simp only [maxLen]; omega) (by omega) (by simp; omega) (w.heap.size + 1) (by simp) ?_; intro gg cap w3 ho3 hg3 hat3 hlt3; have hgg := (gr_alloc (World.grownBy.refl w _)).trans hg3; have f3 := (hgg.frozen_far ⟨gs, 1, none⟩ hlt (fun e => q2 e.symm)).trans fz; have k3 : ∃ v, w3.cell? ⟨gs, 1, none⟩ = some v := ⟨_, hgg.cell k1 (fun e => q2 e.symm)⟩; obtain ⟨v3, k3⟩ := k3))
    go_ret
    refine ⟨retI E0.out.symm, ⟨⟨A1, n1, c1, some ⟨gg, 0, none⟩, n2 + 1, cap, A3, n3, c3⟩, ?_⟩, ?_⟩
    · rw [EX.out]
      exact HP.out _ _ _ (w.heap.size + 1) hgg (by omega) hat3 (by simpa [encS] using ho3)
    · refine bl_set hg0 ?_
      exact ((Below.refl B0 w).alloc (by omega) _).grown hg3 (by simp; omega) (fun b hb => by have := (hlr.out b hb).1; omega)
  · have hcase : ∃ f : Int, f ≠ 0 ∧ Hid (rmF x.st x.rm z = f) := by
      refine ⟨_, ?_, rfl⟩
      rw [E.out]
      cases p1 <;> cases p2 <;> simp_all
    cases p1 <;> cases p2 <;> first | (exact absurd ⟨rfl, rfl⟩ hall) | skip
    all_goals
      obtain ⟨f, hf, F⟩ := hcase
      clear hall
      go_enter Tryz.func55, Tryz.ntmps55
      go_wp2_with (first | (go_at_call 71; refine h1.mono ?_; rintro r w1 ⟨rfl, e⟩; replace e := e.symm; subst e) | (go_at_call 72; refine h2.mono ?_; rintro r w2 ⟨rfl, e⟩; replace e := e.symm; subst e))
      go_ret
      exact ⟨retI (by rw [E.out]; simp), ⟨_, by rw [EA.out, if_neg (by rw [F.out]; exact hf)]; exact Hh.out⟩, Below.refl _ _⟩
set_option maxHeartbeats 2000000 in
set_option maxRecDepth 100000 in
theorem l21Room_any (gs lo B0 : Nat) (s : SV) (x : Sch) (z : ByteArray) (w : World) (hg0 : B0 ≤ gs) (hlo : B0 ≤ lo) (hlw : lo ≤ w.heap.size) (_hz : z.size ≤ 9223372036854775807) (hl : x.st.length ≤ 20) (hl2 : x.rm.length ≤ 2000000) (h : XAt w gs lo s x) :
    Calls Tryz.prog 59 #[.pointer (some ⟨gs, 0, none⟩), .string z] w (AddPost gs lo B0 w (rmF x.st x.rm z) (addRm x z)) := by
  obtain ⟨A1, n1, c1, A2, n2, c2, A3, n3, c3⟩ := s
  obtain ⟨ln1, ln2, ln3⟩ := h.len
  simp only at ln1 ln2 ln3
  have k0 := h.k0
  have k1 := h.k1
  simp only at k0 k1
  have hsl := h.own.sl
  have hlt := h.lt
  have h1 := l21Has_any A1 n1 c1 x.st z w _ (by omega) hsl.st
  have h2 := l21Has_any A2 n2 c2 x.rm z w _ (by omega) hsl.rm
  have E := hid (show rmF x.st x.rm z = if hasS x.st z then if hasS x.rm z then 5 else 0 else 6 from rfl)
  have EA := hid (show addRm x z = if rmF x.st x.rm z = 0 then ⟨x.st, x.rm ++ [z], x.wy⟩ else x from rfl)
  have Ln := hid ln2
  generalize hasS x.st z = p1 at h1 E
  generalize hasS x.rm z = p2 at h2 E
  have hr := h.own.rm
  simp only at hr
  obtain ⟨i0, hi, hz0, hz1, hz2⟩ := info_parts str_info
  have hp := fun (W : World) (gg cap H : Nat) => h.put2 (w3 := W) (z := z) (gg := gg) (cap := cap) (H := H)
  simp only at hp
  have q2 : (Value.slice A2 n2 c2).ownBlock ≠ some gs := h.o2
  have hn20 : n2 ≤ 2000000 := by omega
  have Hh := hid h
  have hlr := hid hr.lt
  have HP := hid hp
  have fz := h.f1
  clear h ln1 ln2 ln3 hsl hp
  by_cases hall : p1 = true ∧ p2 = false
  · obtain ⟨rfl, rfl⟩ := hall
    have E0 : Hid (rmF x.st x.rm z = 0) := by rw [Hid, E.out]; simp
    have EX : Hid (addRm x z = ⟨x.st, x.rm ++ [z], x.wy⟩) := by rw [Hid, EA.out, if_pos E0.out]
    clear E EA
    go_enter Tryz.func59, Tryz.ntmps59
    go_wp2_with (first | (go_at_call 75; (with_reducible refine h1.mono ?_); rintro r w1 ⟨rfl, e⟩; replace e := e.symm; subst e) | (go_at_call 75; (with_reducible refine h2.mono ?_); rintro r w2 ⟨rfl, e⟩; replace e := e.symm; subst e) | (at_builtin; refine wpList_append_lies _ rfl _ _ 22 rfl lo 9 i0 (.string ByteArray.empty) 1 16 Tryz.underlying22 hi hz0 hz1 hz2 rfl (by omega) (.slice A2 n2 c2) n2 (x.rm.flatMap encS) rfl (hr.alloc _) ⟨w.heap.size, 0, none⟩ 1 1 [.string z] rfl rfl (World.news_of_block (cs := #[.string z]) (t := 9) (fr := (0, 0)) (heap_alloc_new w _)) (by simp [Value.oneCell']) (by omega) (by simp only [maxLen]; omega) (by omega) (by simp; omega) (w.heap.size + 1) (by simp) ?_; intro gg cap w3 ho3 hg3 hat3 hlt3; have hgg := (gr_alloc (World.grownBy.refl w _)).trans hg3; have f3 := (hgg.frozen_far ⟨gs, 1, none⟩ hlt (fun e => q2 e.symm)).trans fz; have k3 : ∃ v, w3.cell? ⟨gs, 1, none⟩ = some v := ⟨_, hgg.cell k1 (fun e => q2 e.symm)⟩; obtain ⟨v3, k3⟩ := k3))
    go_ret
    refine ⟨retI E0.out.symm, ⟨⟨A1, n1, c1, some ⟨gg, 0, none⟩, n2 + 1, cap, A3, n3, c3⟩, ?_⟩, ?_⟩
    · rw [EX.out]
      exact HP.out _ _ _ (w.heap.size + 1) hgg (by omega) hat3 (by simpa [encS] using ho3)
    · refine bl_set hg0 ?_
      exact ((Below.refl B0 w).alloc (by omega) _).grown hg3 (by simp; omega) (fun b hb => by have := (hlr.out b hb).1; omega)
  · have hcase : ∃ f : Int, f ≠ 0 ∧ Hid (rmF x.st x.rm z = f) := by
      refine ⟨_, ?_, rfl⟩
      rw [E.out]
      cases p1 <;> cases p2 <;> simp_all
    cases p1 <;> cases p2 <;> first | (exact absurd ⟨rfl, rfl⟩ hall) | skip
    all_goals
      obtain ⟨f, hf, F⟩ := hcase
      clear hall
      go_enter Tryz.func59, Tryz.ntmps59
      go_wp2_with (first | (go_at_call 75; (with_reducible refine h1.mono ?_); rintro r w1 ⟨rfl, e⟩; replace e := e.symm; subst e) | (go_at_call 75; (with_reducible refine h2.mono ?_); rintro r w2 ⟨rfl, e⟩; replace e := e.symm; subst e))
      go_ret
      exact ⟨retI (by rw [E.out]; simp), ⟨_, by rw [EA.out, if_neg (by rw [F.out]; exact hf)]; exact Hh.out⟩, Below.refl _ _⟩
end Go.Proofs.YtcgkcfmiabninaaGreatDoor
/-
  Schemes: a way in a list; a way is added to a scheme of one's own. No condition.
-/
namespace Go.Proofs.YtcgkcfmiabninaaGreatDoor
open Go.RowKit
set_option maxHeartbeats 400000

theorem hasWay1_any (b1 b2 : Nat) (f t x y : ByteArray) (m : Int) (w : World) (k1 : w.cell? ⟨b1, 0, none⟩ = some (.string f)) (k2 : w.cell? ⟨b2, 0, none⟩ = some (.string t)) :
    Calls Tryz.prog 88 #[.agg #[.string x, .string y, .int .i64 m], .pointer (some ⟨b1, 0, none⟩), .pointer (some ⟨b2, 0, none⟩)] w fun r w' => r = .returned (.bool (wayIs f t ⟨x, y, m⟩)) ∧ Below w.heap.size w w' := by
  have l1 := World.block_lt_of_cell? _ _ k1
  have l2 := World.block_lt_of_cell? _ _ k2
  simp only at l1 l2
  have E := hid (show wayIs f t ⟨x, y, m⟩ = (decide (x = f) && decide (y = t)) from rfl)
  have q1 := bs_eq (x := x) (y := f)
  have q2 := bs_eq (x := y) (y := t)
  generalize decide (x = f) = p1 at q1 E
  generalize decide (y = t) = p2 at q2 E
  cases p1 <;> cases p2
  all_goals go_enter Tryz.func88, Tryz.ntmps88
  all_goals go_wp2
  all_goals go_ret
  all_goals exact ⟨retB E.out.symm, (Below.refl _ _).alloc (Nat.le_refl _) _⟩
theorem hasWay_any (gs : Nat) (A : Option Addr) (n c : Nat) (xs : List Way) (f t : ByteArray) (w : World) (B : Nat) (hB : B ≤ w.heap.size) (hn : n ≤ 2000000) (hx : Sl w B 3 encWay A n xs) (k2 : w.cell? ⟨gs, 2, none⟩ = some (.slice A n c)) :
    Calls Tryz.prog 73 #[.pointer (some ⟨gs, 0, none⟩), .string f, .string t] w fun r w' => r = .returned (.bool (hasW xs f t)) ∧ Below w.heap.size w w' := by
  have eg := enters_of Tryz.func88 (by kernel_rfl) rfl
  have lt := World.block_lt_of_cell? _ _ k2
  simp only at lt
  obtain ⟨W0, hW0⟩ : ∃ W0, W0 = (w.alloc (.cells #[.string f] 9)).alloc (.cells #[.string t] 9) := ⟨_, rfl⟩
  have b0 : Below w.heap.size w W0 := by rw [hW0]; exact ((Below.refl _ _).alloc (Nat.le_refl _) _).alloc (by simp) _
  have e1 : W0.cell? ⟨w.heap.size, 0, none⟩ = some (.string f) := by rw [hW0]; go_simp
  have e2 : W0.cell? ⟨w.heap.size + 1, 0, none⟩ = some (.string t) := by rw [hW0]; go_simp
  have hc := ContainsFunc_Way 88 #[.pointer (some ⟨w.heap.size, 0, none⟩), .pointer (some ⟨w.heap.size + 1, 0, none⟩)] (wayIs f t) eg A n c xs W0 B (Nat.le_trans hB b0.size) (by omega) (hx.below (b0.mono hB))
    (fun W x y m _ hW => hasWay1_any _ _ f t x y m W (below_cell e1 hW) (below_cell e2 hW))
  have HW := hid hW0
  have E := hid (show hasW xs f t = xs.any (wayIs f t) from rfl)
  generalize xs.any (wayIs f t) = r at hc E
  clear hW0 hx eg
  go_enter Tryz.func73, Tryz.ntmps73
  go_wp2_with fail
  rw [← HW.out]
  refine hc.mono ?_
  rintro r w1 ⟨rfl, b1⟩
  go_wp2_with fail
  go_ret
  exact ⟨retB E.out.symm, b0.trans (b1.mono b0.size)⟩
theorem l21Way_any (gs : Nat) (A : Option Addr) (n c : Nat) (xs : List Way) (f t : ByteArray) (w : World) (B : Nat) (hn : n ≤ 2000000) (hx : Sl w B 3 encWay A n xs) (k2 : w.cell? ⟨gs, 2, none⟩ = some (.slice A n c)) :
    Calls Tryz.prog 77 #[.pointer (some ⟨gs, 0, none⟩), .string f, .string t] w fun r w' => r = .returned (.int .i64 (findFrom (wayIs f t) 0 xs)) ∧ w' = w := by
  go_enter Tryz.func77, Tryz.ntmps77
  go_wp2
  go_loop [7] (fun i => ∃ k : Nat, k ≤ n ∧ i = .int .i64 k ∧ Hid (findFrom (wayIs f t) 0 xs = findFrom (wayIs f t) k (xs.drop k))) (fun i => n - (intOf i).toNat)
  case atStart => exact ⟨0, Nat.zero_le _, rfl, hid rfl⟩
  case round =>
    obtain ⟨k, hk, rfl, he⟩ := hrel
    by_cases hlt : k < n
    · obtain ⟨x, y, m, b, off, Hy, rfl, hbB, d0, d1, d2⟩ := hx.atWay hlt
      have he2 := he.out
      rw [drop_at Hy.out, findFrom] at he2
      have e0 : wayIs f t ⟨x, y, m⟩ = (decide (x = f) && decide (y = t)) := rfl
      rw [e0] at he2
      have He2 := hid he2
      have q1 := bs_eq (x := x) (y := f)
      have q2 := bs_eq (x := y) (y := t)
      generalize decide (x = f) = p1 at q1 He2
      generalize decide (y = t) = p2 at q2 He2
      have i0 : (0 : Int) ≤ (k : Int) := by omega
      have i1 : (k : Int) < (n : Int) := by omega
      clear he hx he2 e0
      cases p1 <;> cases p2
      all_goals go_wp2
      all_goals first
        | (go_ret; exact ⟨retI (by rw [He2.out]; rfl), rfl⟩)
        | (have He3 : Hid (findFrom (wayIs f t) 0 xs = findFrom (wayIs f t) (k + 1) (xs.drop (k + 1))) := by rw [He2.out]; rfl
           go_round
           case rel => exact ⟨k + 1, by omega, by go_num, He3⟩
           case measure => simp [intOf]; omega)
    · have : k = n := by omega
      subst this
      have he2 := he.out
      rw [List.drop_of_length_le (by rw [hx.len]; omega), findFrom] at he2
      have He2 := hid he2
      clear he he2
      go_wp2
      go_ret
      exact ⟨retI (by rw [He2.out]), rfl⟩
end Go.Proofs.YtcgkcfmiabninaaGreatDoor
/-
  Schemes: a way is added to a scheme of one's own. No condition.
-/
namespace Go.Proofs.YtcgkcfmiabninaaGreatDoor
open Go.RowKit
set_option maxHeartbeats 400000

set_option maxHeartbeats 4000000 in
set_option maxRecDepth 100000 in
theorem addWay_any (gs lo B0 : Nat) (s : SV) (x : Sch) (f t : ByteArray) (m : Int) (w : World) (hg0 : B0 ≤ gs) (hlo : B0 ≤ lo) (hlw : lo ≤ w.heap.size) (hl : x.st.length ≤ 20) (hl3 : x.wy.length ≤ 60) (h : XAt w gs lo s x) :
    Calls Tryz.prog 56 #[.pointer (some ⟨gs, 0, none⟩), .agg #[.string f, .string t, .int .i64 m]] w (AddPost gs lo B0 w (wyF x.st x.wy ⟨f, t, m⟩) (addWy x ⟨f, t, m⟩)) := by
  obtain ⟨A1, n1, c1, A2, n2, c2, A3, n3, c3⟩ := s
  obtain ⟨ln1, ln2, ln3⟩ := h.len
  simp only at ln1 ln2 ln3
  obtain ⟨W0, hW0⟩ : ∃ W0, W0 = w.alloc (.cells #[.string f, .string t, .int .i64 m] 62) := ⟨_, rfl⟩
  have b0 : Below w.heap.size w W0 := by rw [hW0]; exact (Below.refl _ _).alloc (Nat.le_refl _) _
  have b0B : Below B0 w W0 := b0.mono (by omega)
  have d0 : W0.cell? ⟨w.heap.size, 0, none⟩ = some (.string f) := by rw [hW0]; go_simp
  have d1 : W0.cell? ⟨w.heap.size, 1, none⟩ = some (.string t) := by rw [hW0]; go_simp
  have d2 : W0.cell? ⟨w.heap.size, 2, none⟩ = some (.int .i64 m) := by rw [hW0]; go_simp
  have HW := hid hW0
  clear hW0
  have hlt := h.lt
  have hlr : Hid (∀ b, (Value.slice A3 n3 c3).ownBlock = some b → lo ≤ b ∧ b < w.heap.size) := h.own.wy.lt
  have h0 := h.below b0
  have z0 := b0.size
  have k0 := h0.k0
  have k2 := h0.k2
  simp only at k0 k2
  have hsl := h0.own.sl
  have g1 := hasStation_any gs A1 n1 c1 x.st f W0 _ (by omega) hsl.st k0
  have g2 := hasStation_any gs A1 n1 c1 x.st t W0 _ (by omega) hsl.st k0
  have g4 := within_any m 1 2000 W0
  have g5 := hasWay_any gs A3 n3 c3 x.wy f t W0 _ (Nat.le_refl _) (by omega) hsl.wy k2
  have q3 := bs_eq (x := f) (y := t)
  have E : Hid (wyF x.st x.wy ⟨f, t, m⟩ = if hasS x.st f then if hasS x.st t then if decide (f = t) then 7 else if inR m 1 2000 then if hasW x.wy f t then 5 else if n3 < 60 then 0 else 8 else 4 else 6 else 6) := by
    simp only [Hid, wyF, decide_eq_true_eq, ← ln3]
  have EA := hid (show addWy x ⟨f, t, m⟩ = if wyF x.st x.wy ⟨f, t, m⟩ = 0 then ⟨x.st, x.rm, x.wy ++ [⟨f, t, m⟩]⟩ else x from rfl)
  have Ln := hid ln3
  generalize hasS x.st f = p1 at g1 E
  generalize hasS x.st t = p2 at g2 E
  generalize decide (f = t) = p3 at q3 E
  generalize inR m 1 2000 = p4 at g4 E
  generalize hasW x.wy f t = p5 at g5 E
  obtain ⟨i0, hi, hz0, hz1, hz2⟩ := info_parts Way_info
  have hr := h0.own.wy
  simp only at hr
  have q9 : (Value.slice A3 n3 c3).ownBlock ≠ some gs := h0.o3
  have hn60 : n3 ≤ 60 := by omega
  have fz := h0.f2
  have lg := h0.lt
  have Hh := hid h0
  have HR := hid hr
  clear h h0 ln1 ln2 ln3 hsl hr
  cases p1 with
  | false =>
    go_enter Tryz.func56, Tryz.ntmps56
    go_wp2_with fail
    rw [← HW.out]
    go_wp2_with (first | (go_at_call 71; (with_reducible refine g1.mono ?_); rintro r w1 ⟨rfl, e⟩; replace e := e.symm; subst e) | (go_at_call 71; (with_reducible refine g2.mono ?_); rintro r w1 ⟨rfl, e⟩; replace e := e.symm; subst e) | (go_at_call 51; refine g4.mono ?_; rintro r w1 ⟨rfl, e⟩; replace e := e.symm; subst e) | (go_at_call 73; refine g5.mono ?_; rintro r w5 ⟨rfl, b5⟩; replace k2 := below_cell k2 b5; replace d0 := below_cell d0 b5; replace d1 := below_cell d1 b5; replace d2 := below_cell d2 b5; replace fz := below_frz (v := .slice A3 n3 c3) (p := ⟨gs, 2, none⟩) (Hh.out.k2) fz b5; have z5 := b5.size))
    go_ret
    exact ⟨retI (by rw [E.out]; simp), ⟨_, by rw [EA.out, if_neg (by rw [E.out]; simp)]; exact Hh.out⟩, b0B⟩
  | true =>
    cases p2 with
    | false =>
      go_enter Tryz.func56, Tryz.ntmps56
      go_wp2_with fail
      rw [← HW.out]
      go_wp2_with (first | (go_at_call 71; (with_reducible refine g1.mono ?_); rintro r w1 ⟨rfl, e⟩; replace e := e.symm; subst e) | (go_at_call 71; (with_reducible refine g2.mono ?_); rintro r w1 ⟨rfl, e⟩; replace e := e.symm; subst e) | (go_at_call 51; refine g4.mono ?_; rintro r w1 ⟨rfl, e⟩; replace e := e.symm; subst e) | (go_at_call 73; refine g5.mono ?_; rintro r w5 ⟨rfl, b5⟩; replace k2 := below_cell k2 b5; replace d0 := below_cell d0 b5; replace d1 := below_cell d1 b5; replace d2 := below_cell d2 b5; replace fz := below_frz (v := .slice A3 n3 c3) (p := ⟨gs, 2, none⟩) (Hh.out.k2) fz b5; have z5 := b5.size))
      go_ret
      exact ⟨retI (by rw [E.out]; simp), ⟨_, by rw [EA.out, if_neg (by rw [E.out]; simp)]; exact Hh.out⟩, b0B⟩
    | true =>
      cases p3 with
      | true =>
        go_enter Tryz.func56, Tryz.ntmps56
        go_wp2_with fail
        rw [← HW.out]
        go_wp2_with (first | (go_at_call 71; (with_reducible refine g1.mono ?_); rintro r w1 ⟨rfl, e⟩; replace e := e.symm; subst e) | (go_at_call 71; (with_reducible refine g2.mono ?_); rintro r w1 ⟨rfl, e⟩; replace e := e.symm; subst e) | (go_at_call 51; refine g4.mono ?_; rintro r w1 ⟨rfl, e⟩; replace e := e.symm; subst e) | (go_at_call 73; refine g5.mono ?_; rintro r w5 ⟨rfl, b5⟩; replace k2 := below_cell k2 b5; replace d0 := below_cell d0 b5; replace d1 := below_cell d1 b5; replace d2 := below_cell d2 b5; replace fz := below_frz (v := .slice A3 n3 c3) (p := ⟨gs, 2, none⟩) (Hh.out.k2) fz b5; have z5 := b5.size))
        go_ret
        exact ⟨retI (by rw [E.out]; simp), ⟨_, by rw [EA.out, if_neg (by rw [E.out]; simp)]; exact Hh.out⟩, b0B⟩
      | false =>
        cases p4 with
        | false =>
          go_enter Tryz.func56, Tryz.ntmps56
          go_wp2_with fail
          rw [← HW.out]
          go_wp2_with (first | (go_at_call 71; (with_reducible refine g1.mono ?_); rintro r w1 ⟨rfl, e⟩; replace e := e.symm; subst e) | (go_at_call 71; (with_reducible refine g2.mono ?_); rintro r w1 ⟨rfl, e⟩; replace e := e.symm; subst e) | (go_at_call 51; refine g4.mono ?_; rintro r w1 ⟨rfl, e⟩; replace e := e.symm; subst e) | (go_at_call 73; refine g5.mono ?_; rintro r w5 ⟨rfl, b5⟩; replace k2 := below_cell k2 b5; replace d0 := below_cell d0 b5; replace d1 := below_cell d1 b5; replace d2 := below_cell d2 b5; replace fz := below_frz (v := .slice A3 n3 c3) (p := ⟨gs, 2, none⟩) (Hh.out.k2) fz b5; have z5 := b5.size))
          go_ret
          exact ⟨retI (by rw [E.out]; simp), ⟨_, by rw [EA.out, if_neg (by rw [E.out]; simp)]; exact Hh.out⟩, b0B⟩
        | true =>
          cases p5 with
          | true =>
            go_enter Tryz.func56, Tryz.ntmps56
            go_wp2_with fail
            rw [← HW.out]
            go_wp2_with (first | (go_at_call 71; (with_reducible refine g1.mono ?_); rintro r w1 ⟨rfl, e⟩; replace e := e.symm; subst e) | (go_at_call 71; (with_reducible refine g2.mono ?_); rintro r w1 ⟨rfl, e⟩; replace e := e.symm; subst e) | (go_at_call 51; refine g4.mono ?_; rintro r w1 ⟨rfl, e⟩; replace e := e.symm; subst e) | (go_at_call 73; refine g5.mono ?_; rintro r w5 ⟨rfl, b5⟩; replace k2 := below_cell k2 b5; replace d0 := below_cell d0 b5; replace d1 := below_cell d1 b5; replace d2 := below_cell d2 b5; replace fz := below_frz (v := .slice A3 n3 c3) (p := ⟨gs, 2, none⟩) (Hh.out.k2) fz b5; have z5 := b5.size))
            go_ret
            exact ⟨retI (by rw [E.out]; simp), ⟨_, by rw [EA.out, if_neg (by rw [E.out]; simp)]; exact Hh.out.below b5⟩, b0B.trans (b5.mono (by omega))⟩
          | false =>
            by_cases hlt60 : n3 < 60
            · have hne : ((n3 : Int) == 60) = false := by simp; omega
              have E0 : Hid (wyF x.st x.wy ⟨f, t, m⟩ = 0) := by rw [Hid, E.out]; simp; omega
              have EX : Hid (addWy x ⟨f, t, m⟩ = ⟨x.st, x.rm, x.wy ++ [⟨f, t, m⟩]⟩) := by rw [Hid, EA.out, if_pos E0.out]
              clear E EA
              go_enter Tryz.func56, Tryz.ntmps56
              go_wp2_with fail
              rw [← HW.out]
              go_wp2_with (first | (go_at_call 71; (with_reducible refine g1.mono ?_); rintro r w1 ⟨rfl, e⟩; replace e := e.symm; subst e) | (go_at_call 71; (with_reducible refine g2.mono ?_); rintro r w1 ⟨rfl, e⟩; replace e := e.symm; subst e) | (go_at_call 51; refine g4.mono ?_; rintro r w1 ⟨rfl, e⟩; replace e := e.symm; subst e) | (go_at_call 73; refine g5.mono ?_; rintro r w5 ⟨rfl, b5⟩; replace k2 := below_cell k2 b5; replace d0 := below_cell d0 b5; replace d1 := below_cell d1 b5; replace d2 := below_cell d2 b5; replace fz := below_frz (v := .slice A3 n3 c3) (p := ⟨gs, 2, none⟩) (Hh.out.k2) fz b5; have z5 := b5.size))
              have h5 := hid (Hh.out.below b5)
              have hr5 := own_below HR.out b5
              have l5 : gs < w5.heap.size := h5.out.lt
              have l6 : w.heap.size < w5.heap.size := World.block_lt_of_cell? _ _ d0
              go_region_law ((refine step_append_lies _ (by rfl) _ _ _ (by rfl) lo 62 i0 _ 3 40 Tryz.underlying23 hi hz0 hz1 hz2 rfl (by omega) (.slice A3 n3 c3) n3 (x.wy.flatMap encWay) (by rfl) ((ow_drew hr5).alloc _) ⟨w5.heap.size, 0, none⟩ 1 1 [.string f, .string t, .int .i64 m] (by rfl) (by rfl) (World.news_of_block (cs := #[.string f, .string t, .int .i64 m]) (t := 62) (fr := (0, 0)) (heap_alloc_new w5.drew _)) (by simp [Value.oneCell']) (by omega) (by simp only [maxLen]; omega) (by omega) (by simp; omega) (w5.heap.size + 1) (by simp) ?_; intro gg cap w3 ho3 hg3 hat3 hlt3; have hgg := (gr_alloc (gr_drew (World.grownBy.refl w5 _))).trans hg3; have f3 := (hgg.frozen_far ⟨gs, 2, none⟩ l5 (fun e => q9 e.symm)).trans fz; have k3 : ∃ v, w3.cell? ⟨gs, 2, none⟩ = some v := ⟨_, hgg.cell k2 (fun e => q9 e.symm)⟩; obtain ⟨v3, k3⟩ := k3))
              all_goals
                go_wp2_with fail
                go_ret
                refine ⟨retI E0.out.symm, ⟨⟨A1, n1, c1, A2, n2, c2, some ⟨gg, 0, none⟩, n3 + 1, cap⟩, ?_⟩, ?_⟩
                · rw [EX.out]
                  exact h5.out.put3 (H := w5.heap.size + 1) hgg (by omega) hat3 (by simpa [encWay] using ho3)
                · refine bl_set hg0 ?_
                  exact ((b0B.trans (b5.mono (by omega))).drew.alloc (by simp; omega) _).grown hg3 (by simp; omega) (fun b hb => by have := (hlr.out b hb).1; omega)
            · have hne : ((n3 : Int) == 60) = true := by simp; omega
              have Hlt := hid hlt60
              go_enter Tryz.func56, Tryz.ntmps56
              go_wp2_with fail
              rw [← HW.out]
              go_wp2_with (first | (go_at_call 71; (with_reducible refine g1.mono ?_); rintro r w1 ⟨rfl, e⟩; replace e := e.symm; subst e) | (go_at_call 71; (with_reducible refine g2.mono ?_); rintro r w1 ⟨rfl, e⟩; replace e := e.symm; subst e) | (go_at_call 51; refine g4.mono ?_; rintro r w1 ⟨rfl, e⟩; replace e := e.symm; subst e) | (go_at_call 73; refine g5.mono ?_; rintro r w5 ⟨rfl, b5⟩; replace k2 := below_cell k2 b5; replace d0 := below_cell d0 b5; replace d1 := below_cell d1 b5; replace d2 := below_cell d2 b5; replace fz := below_frz (v := .slice A3 n3 c3) (p := ⟨gs, 2, none⟩) (Hh.out.k2) fz b5; have z5 := b5.size))
              go_ret
              exact ⟨retI (by rw [E.out]; simp [Hlt.out]), ⟨_, by rw [EA.out, if_neg (by rw [E.out]; simp [Hlt.out])]; exact Hh.out.below b5⟩, b0B.trans (b5.mono (by omega))⟩
end Go.Proofs.YtcgkcfmiabninaaGreatDoor
