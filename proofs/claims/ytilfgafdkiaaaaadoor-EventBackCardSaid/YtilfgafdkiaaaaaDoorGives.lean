/- How readers stand one behind the other. No condition. -/
import Derived.Test.YtilfgafdkiaaaaaDoorRdStamp
namespace Go.Proofs.YtilfgafdkiaaaaaDoor
open Go.RowKit

/-- From st on, d gives x and leaves st'; bad: of x nothing is said. -/
def Gives {α : Type} (d : Reader α) (st st' : Option (List UInt8)) (x : α) : Prop :=
  (st' = none ∧ st.bind d = none) ∨ ∃ l r, st = some l ∧ d l = some (x, r) ∧ st' = some r
section
variable {α β : Type} {d : Reader α} {k : α → Reader β} {st st1 st2 : Option (List UInt8)} {x : α} {y : β}
theorem gv_gives {z : α} {v : α} (h : gv z d st = (v, st1)) : Gives d st st1 v := by
  cases st with
  | none => cases h; exact .inl ⟨rfl, rfl⟩
  | some l =>
    cases hd : d l with
    | none =>
      rw [gv_none hd] at h
      cases h
      exact .inl ⟨rfl, hd⟩
    | some p =>
      obtain ⟨a, r⟩ := p
      rw [gv_some hd] at h
      cases h
      exact .inr ⟨l, r, rfl, hd, rfl⟩
theorem Gives.bind (h : Gives d st st1 x) (h2 : Gives (k x) st1 st2 y) : Gives (rb d k) st st2 y := by
  rcases h with ⟨rfl, hb⟩ | ⟨l, r, rfl, hd, rfl⟩
  · rcases h2 with ⟨rfl, _⟩ | ⟨l, r, h, _⟩
    · refine .inl ⟨rfl, ?_⟩
      cases st with
      | none => rfl
      | some l => exact rb_none hb
    · cases h
  · rcases h2 with ⟨rfl, h3⟩ | ⟨l2, r2, h3, h4, rfl⟩
    · exact .inl ⟨rfl, (rb_some hd).trans h3⟩
    · cases h3
      exact .inr ⟨l, r2, rfl, (rb_some hd).trans h4, rfl⟩
theorem Gives.ret (x : α) : Gives (rp x) st st x := by
  cases st with
  | none => exact .inl ⟨rfl, rfl⟩
  | some l => exact .inr ⟨l, l, rfl, rfl, rfl⟩
theorem Gives.yes {b : Bool} (h : b = true) (x : α) : Gives (rif b x) st st x := by
  cases st with
  | none => exact .inl ⟨rfl, rfl⟩
  | some l => exact .inr ⟨l, l, rfl, if_pos h, rfl⟩
theorem Gives.no {b : Bool} (h : b = false) (x y : α) : Gives (rif b x) st none y := by
  cases st with
  | none => exact .inl ⟨rfl, rfl⟩
  | some l => exact .inl ⟨rfl, if_neg (by rw [h]; simp)⟩
theorem Gives.bad (y : α) : Gives d none none y := .inl ⟨rfl, rfl⟩
theorem Gives.any (h : Gives d st none x) (y : α) : Gives d st none y := by
  rcases h with h | ⟨_, _, _, _, h⟩
  · exact .inl h
  · cases h
theorem Gives.hit {l r : List UInt8} (h : Gives d (some l) (some r) x) : d l = some (x, r) := by
  rcases h with ⟨h, _⟩ | ⟨_, _, h1, h2, h3⟩
  · cases h
  · cases h1
    cases h3
    exact h2
theorem Gives.miss {l : List UInt8} (h : Gives d (some l) none x) : d l = none := by
  rcases h with ⟨_, h⟩ | ⟨_, _, _, _, h⟩
  · exact h
  · cases h
/-- From a bad reader on all is bad. -/
theorem Gives.still (h : Gives d none st1 x) : st1 = none := by
  rcases h with ⟨h, _⟩ | ⟨_, _, h, _⟩
  · exact h
  · cases h
theorem Gives.many0 : Gives (dMany d 0) st st [] := Gives.ret []
theorem Gives.many {n : Nat} {xs : List α} (h : Gives d st st1 x) (h2 : Gives (dMany d n) st1 st2 xs) : Gives (dMany d (n + 1)) st st2 (x :: xs) :=
  h.bind (h2.bind (Gives.ret _))
theorem Gives.map {γ : Type} {f : α → γ} (h : Gives d st st1 x) : Gives (rb d fun a => rp (f a)) st st1 (f x) := h.bind (Gives.ret _)
/-- The same answer by another reader. -/
theorem Gives.as {d2 : Reader α} (h : Gives d st st1 x) (he : ∀ l, st = some l → d2 l = d l) : Gives d2 st st1 x := by
  rcases h with ⟨rfl, hb⟩ | ⟨l, r, rfl, hd, rfl⟩
  · refine .inl ⟨rfl, ?_⟩
    cases st with
    | none => rfl
    | some l => exact (he l rfl).trans hb
  · exact .inr ⟨l, r, rfl, (he l rfl).trans hd, rfl⟩
theorem Gives.len (h : Gives d st st1 x) (hd : Less d) {l r : List UInt8} (h1 : st = some l) (h2 : st1 = some r) : r.length ≤ l.length := by
  subst h1
  subst h2
  exact hd _ _ _ h.hit
end
/-- A call gives some value and leaves the reader so. -/
def RdLoose {α : Type} (T : TypeId) (R : Nat) (A : Option Addr) (c8 : Nat) (l0 : List UInt8) (w : World) (f : α → Value) (d : Reader α) (st : Option (List UInt8)) (e : Ending) (w' : World) : Prop :=
  ∃ x st', e = .returned (f x) ∧ RdS T R A c8 l0 st' w' ∧ But (fun k => k = R) w w' ∧ Gives d st st' x
set_option maxRecDepth 100000 in
set_option maxHeartbeats 1000000 in
theorem eyeStamp_any (R : Nat) (A : Option Addr) (c8 : Nat) (l0 : List UInt8) (st : Option (List UInt8)) (w : World) (h : RdS 81 R A c8 l0 st w) (hl : l0.length ≤ 1073741824) (hcap : l0.length ≤ c8) :
    Calls Tryd.prog 68 #[.pointer (some ⟨R, 0, none⟩)] w (RdLoose 81 R A c8 l0 w stVal dStamp st) := by
  have hRw := h.lt
  have h0 := h.g (G.new w (.cells #[.int .i64 0, .int .i64 0, .int .i64 0] 35))
  have hS0 : (w.alloc (.cells #[.int .i64 0, .int .i64 0, .int .i64 0] 35)).heap[w.heap.size]? = some (.cells #[.int .i64 0, .int .i64 0, .int .i64 0] 35 (0, 0)) := blk_new _ _ _
  have hn1 := eyeNum_any R A c8 l0 st _ h0 hl hcap 1125899906842624 1125899906842624 rfl (by omega)
  obtain ⟨a, st1, h1⟩ : ∃ v s, gv 0 (dCount 1125899906842624) st = (v, s) := ⟨_, _, rfl⟩
  rw [h1] at hn1
  have g1 := gv_gives h1
  replace g1 := Lib.hid g1
  replace hS0 := Lib.hid hS0
  clear h1 h h0
  go_enter Tryd.func68, Tryd.ntmps68
  go_wp2_with fail
  refine hn1.mono ?_
  clear hn1
  rintro e w1 ⟨rfl, hr1, hb1⟩
  have hn2 := eyeNum_any R A c8 l0 st1 w1 hr1 hl hcap 65535 65535 rfl (by omega)
  obtain ⟨b, st2, h2⟩ : ∃ v s, gv 0 (dCount 65535) st1 = (v, s) := ⟨_, _, rfl⟩
  rw [h2] at hn2
  have g2 := gv_gives h2
  replace g2 := Lib.hid g2
  replace hb1 := Lib.hid hb1
  clear h2 hr1
  go_wp2_with fail
  refine hn2.mono ?_
  clear hn2
  rintro e w2 ⟨rfl, hr2, hb2⟩
  have hn3 := eyeNum_any R A c8 l0 st2 w2 hr2 hl hcap 5 5 rfl (by omega)
  obtain ⟨c, st3, h3⟩ : ∃ v s, gv 0 (dCount 5) st2 = (v, s) := ⟨_, _, rfl⟩
  rw [h3] at hn3
  have g3 := gv_gives h3
  replace g3 := Lib.hid g3
  replace hb2 := Lib.hid hb2
  clear h3 hr2
  go_wp2_with fail
  refine hn3.mono ?_
  clear hn3
  rintro e w3 ⟨rfl, hr3, hb3⟩
  have hbb := (hb1.out.trans hb2.out).trans hb3
  have hS := hbb.blk hS0.out (by omega)
  have hbw := (But.of_g (S := fun k => k = R) (G.new w (.cells #[.int .i64 0, .int .i64 0, .int .i64 0] 35))).trans hbb
  have q0 := (blk_cell hS 0).trans (show _ = some (.int .i64 0) from rfl)
  have q1 := (blk_cell hS 1).trans (show _ = some (.int .i64 0) from rfl)
  have q2 := (blk_cell hS 2).trans (show _ = some (.int .i64 0) from rfl)
  have fq : ∀ o, w3.frozen? ⟨w.heap.size, o, none⟩ = false := fun o => by simp [World.frozen?, hS]
  have f0 := fq 0
  have f1 := fq 1
  have f2 := fq 2
  have hk3 := blk3 hS (.int .i64 a) (.int .i64 b) (.int .i64 c)
  have e0 := (blk_cell hk3 0).trans (show _ = some (.int .i64 a) from rfl)
  have e1 := (blk_cell hk3 1).trans (show _ = some (.int .i64 b) from rfl)
  have e2 := (blk_cell hk3 2).trans (show _ = some (.int .i64 c) from rfl)
  have hbt := hbw.set3 (Nat.le_refl _) (.int .i64 a) (.int .i64 b) (.int .i64 c)
  have hr4 := hr3.but (but_set3 w3 w.heap.size (.int .i64 a) (.int .i64 b) (.int .i64 c)) (by omega)
  replace e0 := Lib.hid e0
  replace e1 := Lib.hid e1
  replace e2 := Lib.hid e2
  replace hk3 := Lib.hid hk3
  replace hbt := Lib.hid hbt
  replace hr4 := Lib.hid hr4
  clear fq hS hbw hbb hb1 hb2 hb3 hr3
  go_wp2_with fail
  have e0 := e0.out
  have e1 := e1.out
  have e2 := e2.out
  refine bodyPost_ret (v := .agg #[.int .i64 a, .int .i64 b, .int .i64 c]) (by simp [results, Tryd.results68, go_sem, e0, e1, e2]) rfl ?_
  exact ⟨⟨a, b, c⟩, st3, rfl, hr4.out, hbt.out, g1.out.bind (g2.out.bind (g3.out.bind (Gives.ret _)))⟩
end Go.Proofs.YtilfgafdkiaaaaaDoor
