/-
  Schemes: when one is valid; a scheme of one's own behind a pointer; names and ways in lists. No condition.
-/
import Derived.Test.YtmanbpobdaamfaaSchm2
import Derived.Test.YtmanbpobdaamfaaName
namespace Go.Proofs.Ytmanbpobdaamfaa
open Go.RowKit
set_option maxHeartbeats 400000

def hasS (l : List ByteArray) (z : ByteArray) : Bool := l.any fun y => decide (y = z)
def wayIs (f t : ByteArray) (x : Way) : Bool := decide (x.fr = f) && decide (x.to = t)
def hasW (l : List Way) (f t : ByteArray) : Bool := l.any (wayIs f t)
/-- the faults of a station, a room, a way that is added -/
def stF (ss : List ByteArray) (z : ByteArray) : Int := if nameB z then if hasS ss z then 5 else if ss.length < 20 then 0 else 8 else 3
def rmF (ss rs : List ByteArray) (z : ByteArray) : Int := if hasS ss z then if hasS rs z then 5 else 0 else 6
def wyF (ss : List ByteArray) (ws : List Way) (x : Way) : Int :=
  if hasS ss x.fr then if hasS ss x.to then if x.fr = x.to then 7 else if inR x.metres 1 2000 then if hasW ws x.fr x.to then 5 else if ws.length < 60 then 0 else 8 else 4 else 6 else 6
def okL {α : Type} (f : List α → α → Int) : List α → List α → Bool
  | _, [] => true
  | p, x :: r => decide (f p x = 0) && okL f (p ++ [x]) r
def validX (x : Sch) : Bool := okL stF [] x.st && (okL (rmF x.st) [] x.rm && okL (wyF x.st) [] x.wy)
theorem okL_at {α : Type} {f : List α → α → Int} {xs : List α} {k : Nat} {x : α} (h : xs[k]? = some x) :
    okL f (xs.take k) (xs.drop k) = (decide (f (xs.take k) x = 0) && okL f (xs.take (k + 1)) (xs.drop (k + 1))) := by
  rw [drop_at h, okL, take_at h]
theorem okL_end {α : Type} {f : List α → α → Int} {xs : List α} {k : Nat} (h : xs.length ≤ k) : okL f (xs.take k) (xs.drop k) = true := by
  rw [List.drop_of_length_le h]; rfl
theorem stF_zero {ss : List ByteArray} {z : ByteArray} (h : stF ss z = 0) : ss.length < 20 := by
  unfold stF at h
  split at h
  · split at h
    · omega
    · split at h
      · assumption
      · omega
  · omega
theorem wyF_zero {ss : List ByteArray} {ws : List Way} {x : Way} (h : wyF ss ws x = 0) : ws.length < 60 ∧ 1 ≤ x.metres ∧ x.metres ≤ 2000 := by
  unfold wyF at h
  split at h
  · split at h
    · split at h
      · omega
      · split at h
        · rename_i hm
          split at h
          · omega
          · split at h
            · simp [inR] at hm; exact ⟨by assumption, hm⟩
            · omega
        · omega
    · omega
  · omega

/-- a scheme of one's own in block gs -/
structure XAt (w : World) (gs lo : Nat) (s : SV) (x : Sch) : Prop where
  k0 : w.cell? ⟨gs, 0, none⟩ = some (.slice s.A1 s.n1 s.c1)
  k1 : w.cell? ⟨gs, 1, none⟩ = some (.slice s.A2 s.n2 s.c2)
  k2 : w.cell? ⟨gs, 2, none⟩ = some (.slice s.A3 s.n3 s.c3)
  f0 : w.frozen? ⟨gs, 0, none⟩ = false
  f1 : w.frozen? ⟨gs, 1, none⟩ = false
  f2 : w.frozen? ⟨gs, 2, none⟩ = false
  own : OwnX w lo s x
  o1 : (Value.slice s.A1 s.n1 s.c1).ownBlock ≠ some gs
  o2 : (Value.slice s.A2 s.n2 s.c2).ownBlock ≠ some gs
  o3 : (Value.slice s.A3 s.n3 s.c3).ownBlock ≠ some gs
theorem XAt.lt {w : World} {gs lo : Nat} {s : SV} {x : Sch} (h : XAt w gs lo s x) : gs < w.heap.size := World.block_lt_of_cell? _ _ h.k0
theorem XAt.below {w w' : World} {gs lo : Nat} {s : SV} {x : Sch} (h : XAt w gs lo s x) (hb : Below w.heap.size w w') : XAt w' gs lo s x :=
  ⟨below_cell h.k0 hb, below_cell h.k1 hb, below_cell h.k2 hb, below_frz h.k0 h.f0 hb, below_frz h.k1 h.f1 hb, below_frz h.k2 h.f2 hb, h.own.below hb, h.o1, h.o2, h.o3⟩
theorem XAt.len {w : World} {gs lo : Nat} {s : SV} {x : Sch} (h : XAt w gs lo s x) : s.n1 = x.st.length ∧ s.n2 = x.rm.length ∧ s.n3 = x.wy.length :=
  ⟨own_len encS_len (by omega) h.own.st, own_len encS_len (by omega) h.own.rm, own_len encWay_len (by omega) h.own.wy⟩

theorem IndexS_any (A : Option Addr) (n c : Nat) (xs : List ByteArray) (z : ByteArray) (w : World) (B : Nat) (hn : n ≤ 2000000) (hx : Sl w B 1 encS A n xs) :
    Calls Try.prog 91 #[.slice A n c, .string z] w fun r w' => r = .returned (.int .i64 (findFrom (fun y => decide (y = z)) 0 xs)) ∧ w' = w := by
  go_enter Try.func91, Try.ntmps91
  go_wp2
  go_loop [5, 8] (fun _ i => ∃ k : Nat, k ≤ n ∧ i = .int .i64 k ∧ Hid (findFrom (fun y => decide (y = z)) 0 xs = findFrom (fun y => decide (y = z)) k (xs.drop k))) (fun _ i => n - (intOf i).toNat)
  case atStart => exact ⟨0, Nat.zero_le _, rfl, hid rfl⟩
  case round =>
    obtain ⟨k, hk, rfl, he⟩ := hrel
    by_cases hlt : k < n
    · obtain ⟨y, b, off, Hy, rfl, hbB, c0⟩ := hx.str hlt
      have he2 := he.out
      rw [drop_at Hy.out, findFrom] at he2
      clear he hx
      by_cases q : y = z
      · rw [if_pos (decide_eq_true q)] at he2
        have He2 := hid he2
        have q1 := bs_in q
        have q2 := bs_in q.symm
        subst q
        clear he2
        go_wp2
        go_ret
        exact ⟨retI He2.out.symm, rfl⟩
      · rw [if_neg (by simpa using q)] at he2
        have He2 := hid he2
        have q1 := bs_ne q
        have q2 := bs_ne (Ne.symm q)
        clear he2 q
        go_wp2
        go_round
        case rel => exact ⟨k + 1, by omega, by go_num, He2⟩
        case measure => simp [intOf]; omega
    · have : k = n := by omega
      subst this
      have he2 := he.out
      rw [List.drop_of_length_le (by rw [hx.len]; omega), findFrom] at he2
      have He2 := hid he2
      clear he he2
      go_wp2
      go_ret
      exact ⟨retI He2.out.symm, rfl⟩
theorem ContainsS_any (A : Option Addr) (n c : Nat) (xs : List ByteArray) (z : ByteArray) (w : World) (B : Nat) (hn : n ≤ 2000000) (hx : Sl w B 1 encS A n xs) :
    Calls Try.prog 74 #[.slice A n c, .string z] w fun r w' => r = .returned (.bool (hasS xs z)) ∧ w' = w := by
  unfold hasS
  rw [← findFrom_any _ xs 0]
  have hc := IndexS_any A n c xs z w B hn hx
  generalize findFrom (fun y => decide (y = z)) 0 xs = r at hc
  clear hx
  go_enter Try.func74, Try.ntmps74
  go_wp2_with (go_at_call 91; refine hc.mono ?_; rintro e w' ⟨rfl, rfl⟩)
  go_ret
  exact ⟨rfl, rfl⟩
theorem hasStation_any (gs : Nat) (A : Option Addr) (n c : Nat) (xs : List ByteArray) (z : ByteArray) (w : World) (B : Nat) (hn : n ≤ 2000000) (hx : Sl w B 1 encS A n xs) (k0 : w.cell? ⟨gs, 0, none⟩ = some (.slice A n c)) :
    Calls Try.prog 43 #[.pointer (some ⟨gs, 0, none⟩), .string z] w fun r w' => r = .returned (.bool (hasS xs z)) ∧ w' = w := by
  have hc := ContainsS_any A n c xs z w B hn hx
  clear hx
  go_enter Try.func43, Try.ntmps43
  go_wp2_with (go_at_call 74; refine hc.mono ?_; rintro e w' ⟨rfl, rfl⟩)
  go_ret
  exact ⟨rfl, rfl⟩
theorem l21Has_any (A : Option Addr) (n c : Nat) (xs : List ByteArray) (z : ByteArray) (w : World) (B : Nat) (hn : n ≤ 2000000) (hx : Sl w B 1 encS A n xs) :
    Calls Try.prog 37 #[.slice A n c, .string z] w fun r w' => r = .returned (.bool (hasS xs z)) ∧ w' = w := by
  go_enter Try.func37, Try.ntmps37
  go_wp2
  go_loop [5] (fun i => ∃ k : Nat, k ≤ n ∧ i = .int .i64 k ∧ Hid (hasS xs z = hasS (xs.drop k) z)) (fun i => n - (intOf i).toNat)
  case atStart => exact ⟨0, Nat.zero_le _, rfl, hid rfl⟩
  case round =>
    obtain ⟨k, hk, rfl, he⟩ := hrel
    by_cases hlt : k < n
    · obtain ⟨y, b, off, Hy, rfl, hbB, c0⟩ := hx.str hlt
      have he2 := he.out
      rw [drop_at Hy.out] at he2
      clear he hx
      by_cases q : y = z
      · have He2 : Hid (hasS xs z = true) := by rw [he2]; simp [Hid, hasS, q]
        have q1 := bs_in q
        subst q
        clear he2
        go_wp2
        go_ret
        exact ⟨retB He2.out.symm, rfl⟩
      · have He2 : Hid (hasS xs z = hasS (xs.drop (k + 1)) z) := by rw [he2]; simp [Hid, hasS, q]
        have q1 := bs_ne q
        clear he2 q
        go_wp2
        go_round
        case rel => exact ⟨k + 1, by omega, by go_num, He2⟩
        case measure => simp [intOf]; omega
    · have : k = n := by omega
      subst this
      have he2 := he.out
      rw [List.drop_of_length_le (by rw [hx.len]; omega)] at he2
      have He2 := hid he2
      clear he he2
      go_wp2
      go_ret
      exact ⟨retB (by rw [He2.out]; rfl), rfl⟩
theorem IndexFunc_Way (g : Nat) (caps : Array Value) (p : Way → Bool) (eg : ∀ args w, (callFunc g args).run Try.prog w = .ok (.enter g args) w) (A : Option Addr) (n c : Nat) (xs : List Way) (w : World) (B : Nat) (hB : B ≤ w.heap.size) (hn : n ≤ 140737488355328)
    (hx : Sl w B 3 encWay A n xs) (hp : ∀ (W : World) (x y : ByteArray) (m : Int), (⟨x, y, m⟩ : Way) ∈ xs → Below w.heap.size w W → Calls Try.prog g (#[.agg #[.string x, .string y, .int .i64 m]] ++ caps) W fun e w' => e = .returned (.bool (p ⟨x, y, m⟩)) ∧ Below W.heap.size W w') :
    Calls Try.prog 81 #[.slice A n c, .func (.func g) #[] caps] w fun e w' => e = .returned (.int .i64 (findFrom p 0 xs)) ∧ Below w.heap.size w w' := by
  go_enter Try.func81, Try.ntmps81
  go_wp2
  go_loopw [5, 8] (fun _ i w1 => ∃ k : Nat, k ≤ n ∧ i = .int .i64 k ∧ Hid (findFrom p 0 xs = findFrom p k (xs.drop k)) ∧ Below w.heap.size w w1) (fun _ i _ => n - (intOf i).toNat)
  case atStart => exact ⟨0, Nat.zero_le _, rfl, hid rfl, Below.refl _ _⟩
  case round =>
    obtain ⟨k, hk, rfl, he, hb⟩ := hrel
    by_cases hlt : k < n
    · obtain ⟨x, y, m, b, off, Hx, rfl, hbB, c0, c1, c2⟩ := (hx.below (hb.mono hB)).atWay hlt
      have hcall := hp wr x y m (List.mem_of_getElem? Hx.out) hb
      have he2 := he.out
      rw [drop_at Hx.out, findFrom] at he2
      clear hp hx
      cases hq : p ⟨x, y, m⟩ with
      | true =>
        rw [hq] at hcall
        rw [hq, if_pos rfl] at he2
        have He2 := hid he2
        clear he2 hq
        go_wp2_with (go_at_fn g; refine hcall.mono ?_; rintro e w' ⟨rfl, hb'⟩)
        go_ret
        exact ⟨retI He2.out.symm, hb.trans (hb'.mono hb.size)⟩
      | false =>
        rw [hq] at hcall
        rw [hq, if_neg (by simp)] at he2
        have He2 := hid he2
        clear he2 hq
        go_wp2_with (go_at_fn g; refine hcall.mono ?_; rintro e w' ⟨rfl, hb'⟩)
        have hb2 := hb.trans (hb'.mono hb.size)
        go_roundw
        all_goals first | exact ⟨k + 1, by omega, by go_num, He2, hb2⟩ | exact ⟨⟨k + 1, by omega, by go_num, He2, hb2⟩, by simp [intOf]; omega⟩ | (simp [intOf]; omega)
    · have : k = n := by omega
      subst this
      have he2 := he.out
      rw [List.drop_of_length_le (by rw [hx.len]; omega), findFrom] at he2
      have He2 := hid he2
      clear he2
      go_wp2
      go_ret
      exact ⟨retI He2.out.symm, hb⟩
theorem ContainsFunc_Way (g : Nat) (caps : Array Value) (p : Way → Bool) (eg : ∀ args w, (callFunc g args).run Try.prog w = .ok (.enter g args) w) (A : Option Addr) (n c : Nat) (xs : List Way) (w : World) (B : Nat) (hB : B ≤ w.heap.size) (hn : n ≤ 140737488355328)
    (hx : Sl w B 3 encWay A n xs) (hp : ∀ (W : World) (x y : ByteArray) (m : Int), (⟨x, y, m⟩ : Way) ∈ xs → Below w.heap.size w W → Calls Try.prog g (#[.agg #[.string x, .string y, .int .i64 m]] ++ caps) W fun e w' => e = .returned (.bool (p ⟨x, y, m⟩)) ∧ Below W.heap.size W w') :
    Calls Try.prog 83 #[.slice A n c, .func (.func g) #[] caps] w fun e w' => e = .returned (.bool (xs.any p)) ∧ Below w.heap.size w w' := by
  rw [← findFrom_any p xs 0]
  have hc := IndexFunc_Way g caps p eg A n c xs w B hB hn hx hp
  generalize findFrom p 0 xs = r at hc
  clear hp hx
  go_enter Try.func83, Try.ntmps83
  go_wp2_with (go_at_call 81; refine hc.mono ?_; rintro e w' ⟨rfl, hb⟩)
  go_ret
  exact ⟨rfl, hb⟩
end Go.Proofs.Ytmanbpobdaamfaa
