/- Several texts in one: WholeLaw, Lin. -/
import Derived.Test.YthhhobfdlgmjlaaDoorM44WholeRow
import Derived.Test.YthhhobfdlgmjlaaDoorFeedRefusedWQWholeRow
import Derived.Test.YthhhobfdlgmjlaaDoorBase
/- FeedWhole's law: polled on and on, all is told. Plain Lean. No condition. -/
namespace Go.Proofs.YthhhobfdlgmjlaaDoor
open Go.RowKit

theorem cuB_true {a b : Cu} (h : cuB a b = true) : a = b := by
  obtain ⟨a1, a2, a3⟩ := a
  obtain ⟨b1, b2, b3⟩ := b
  simp only [cuB, Bool.and_eq_true, decide_eq_true_eq] at h
  obtain ⟨rfl, rfl, rfl⟩ := h
  rfl
theorem cuB_self (a : Cu) : cuB a a = true := by simp [cuB]
theorem match_star (s : ByteArray) : matchB st1 s = validB s := by
  cases hv : validB s with
  | true => exact match_st1 hv
  | false =>
    unfold matchB
    rw [hv, Bool.and_false, Bool.false_and]
theorem match_valid {p s : ByteArray} (h : matchB p s = true) : validB s = true := by
  unfold matchB at h
  rw [Bool.and_eq_true, Bool.and_eq_true] at h
  exact h.1.2
theorem only_star (p : ByteArray) (X : List Ev) : onlyL p (onlyL st1 X) = onlyL p X := by
  unfold onlyL
  rw [List.filter_filter]
  congr 1
  funext x
  rw [match_star]
  cases h : matchB p x.stream with
  | false => rfl
  | true => rw [match_valid h]; rfl
theorem AllOf.ini {F : Ev → Prop} {a : List Ev} (h : AllOf F a) : Ini F a := ⟨h.1, fun o ho => (h.2 o).2 ho, fun y hy => .inl ((h.2 y).1 hy)⟩
theorem AllOf.same {F : Ev → Prop} {a b : List Ev} (ha : AllOf F a) (hb : AllOf F b) : a = b := by
  have h1 : a.length ≤ b.length := nodup_le (ini_nodup ha.ini) fun x hx => (hb.2 x).1 ((ha.2 x).2 hx)
  have h2 : b.length ≤ a.length := nodup_le (ini_nodup hb.ini) fun x hx => (ha.2 x).1 ((hb.2 x).2 hx)
  exact (ha.ini.prefix hb.ini h1).eq_of_length (Nat.le_antisymm h1 h2)
theorem inLogs_all (A : Option Addr) (c : Nat) (own : List Ev) (ls : List LogM) (y : Ev) : inLogs (⟨A, c, own⟩ :: ls) y ↔ y ∈ allEvs ls ++ own := by
  rw [List.mem_append]
  unfold inLogs allEvs
  rw [List.mem_flatMap]
  constructor
  · rintro ⟨l, hl, hy⟩
    rcases List.mem_cons.1 hl with rfl | hl
    · exact .inr hy
    · exact .inl ⟨l, hl, hy⟩
  · rintro (⟨l, hl, hy⟩ | hy)
    · exact ⟨l, List.mem_cons.2 (.inr hl), hy⟩
    · exact ⟨_, List.mem_cons.2 (.inl rfl), hy⟩
theorem apart_ne {es : List Ev} (h : Apart es) {x y : Ev} (hx : x ∈ es) (hy : y ∈ es) (hne : x ≠ y) : plOf x ≠ plOf y := by
  intro e
  obtain ⟨i, hi⟩ := List.getElem?_of_mem hx
  obtain ⟨j, hj⟩ := List.getElem?_of_mem hy
  rcases Nat.lt_trichotomy i j with h1 | h1 | h1
  · have := h j i y x h1 hj hi
    rw [samePlace_of e.symm] at this
    cases this
  · subst h1
    rw [hi] at hj
    cases hj
    exact hne rfl
  · have := h i j x y h1 hi hj
    rw [samePlace_of e] at this
    cases this
theorem dist_all {A : Option Addr} {c : Nat} {own : List Ev} {ls : List LogM} (h : Apart (allEvs ls ++ own)) : Dist (inLogs (⟨A, c, own⟩ :: ls)) :=
  fun x y hx hy hne => apart_ne h ((inLogs_all A c own ls x).1 hx) ((inLogs_all A c own ls y).1 hy) hne
theorem told_len {L : List LogM} {st : St} {PA es : List Ev} (h : Ini (mergeF L st cu0) PA) (hL : ∀ y, inLogs L y ↔ y ∈ es) : PA.length ≤ es.length :=
  nodup_le (ini_nodup h) fun x hx => (hL x).1 (h.2.1 x hx).1
theorem cur_okP {L : List LogM} {st : St} {PA : List Ev} {c : Cu} {mx : Int} {p : ByteArray} (hp : patOk p = true) (h : Ini (mergeF L st cu0) PA) (hL : ∀ y, inLogs L y → okE y) (hc : curOf cu0 PA = c) (h1 : 1 ≤ mx) (h2 : mx ≤ 100) : pollOk p c mx = true := by
  have h0 := cur_ok h hL hc h1 h2
  unfold pollOk at h0 ⊢
  rw [st1_ok, Bool.true_and] at h0
  rw [hp, h0]
  rfl
/-- What has been told, with a pattern, since a world: a row, a place's block. -/
structure ToldP (p : ByteArray) (L : List LogM) (st : St) (W : World) (C : Nat) (PA : List Ev) (v : Value) (w : World) : Prop where
  ini : Ini (mergeF L st cu0) PA
  row : OwnL 32 7 Ev.cells w W.heap.size v (onlyL p PA)
  cur : w.heap[C]? = some (.cells (cuCs (curOf cu0 PA)) 38 (0, 0))
  but : But (fun k => k = C) W w
theorem told_more {L : List LogM} {st : St} {c : Cu} {PA o1 : List Ev} {mx : Int} (hd : Dist (inLogs L)) (h : Ini (mergeF L st cu0) PA) (hc : curOf cu0 PA = c) (hf : IsFirst (mergeF L st c) mx o1) : Ini (mergeF L st cu0) (PA ++ o1) := h.next hd (by rw [hc]; exact hf)
theorem told_over {L : List LogM} {st : St} {c : Cu} {PA o1 : List Ev} {mx : Int} (hd : Dist (inLogs L)) (h : Ini (mergeF L st cu0) PA) (hc : curOf cu0 PA = c) (hm : 1 ≤ mx) (hf : IsFirst (mergeF L st c) mx o1) (he : cuB (curOf c o1) c = true) : o1 = [] ∧ AllOf (mergeF L st cu0) PA := by
  have h1 := cur_moves hf (cuB_true he)
  subst h1
  exact ⟨rfl, h.over (max := mx) hd (by omega) (by rw [hc]; exact hf)⟩
theorem told_moves {L : List LogM} {st : St} {c : Cu} {o1 : List Ev} {mx : Int} (_hf : IsFirst (mergeF L st c) mx o1) (he : cuB (curOf c o1) c = false) : 1 ≤ o1.length := by
  rcases o1 with _ | ⟨x, l⟩
  · rw [curOf_nil, cuB_self] at he
    cases he
  · simp
theorem ToldP.g6 {p : ByteArray} {L : List LogM} {st : St} {W w6 w : World} {C : Nat} {PA : List Ev} {v : Value} (h : ToldP p L st W C PA v w) (h67 : G w6 W) (hC : w6.heap.size ≤ C) : G w6 w :=
  Below.trans h67 (h.but.below h67.size fun k _ e => by subst e; exact hC)
theorem ToldP.keep {p : ByteArray} {L : List LogM} {st : St} {W wr w10 w12 : World} {C : Nat} {PA : List Ev} {v : Value} (h : ToldP p L st W C PA v wr) (hr : G wr w10) (hb : But (fun k => some k = v.ownBlock) w10 w12) : But (fun k => k = C) W w12 := by
  have h1 := h.but.g hr
  refine ⟨hb.os.trans h1.os, hb.tape.trans h1.tape, hb.output.trans h1.output, Nat.le_trans h1.size hb.size, fun i hi hn => ?_⟩
  refine (hb.block i (Nat.lt_of_lt_of_le hi h1.size) fun e => ?_).trans (h1.block i hi hn)
  have := (h.row.blk e.symm).1
  omega
theorem ToldP.next {p : ByteArray} {L : List LogM} {st : St} {W wr w10 w12 w14 : World} {C : Nat} {PA o1 : List Ev} {v v' : Value} {c : Cu} {mx : Int} {cs : Array Value} (hd : Dist (inLogs L)) (h : ToldP p L st W C PA v wr) (hc : curOf cu0 PA = c) (hf : IsFirst (mergeF L st c) mx o1) (hr : G wr w10)
    (hb : But (fun k => some k = v.ownBlock) w10 w12) (hrow : OwnL 32 7 Ev.cells w12 W.heap.size v' (onlyL p PA ++ onlyL p o1)) (hC12 : w12.heap[C]? = some (.cells cs 38 (0, 0))) (hb14 : But (fun k => k = C) w12 w14) (hC14 : w14.heap[C]? = some (.cells (cuCs (curOf c o1)) 38 (0, 0))) :
    ToldP p L st W C (PA ++ o1) v' w14 :=
  ⟨told_more hd h.ini hc hf, by rw [onlyL_app]; exact hrow.but' hb14 (fun k hk e => by subst e; exact row_type hrow hk hC12 (by decide)), by rw [curOf_append, hc]; exact hC14, (h.keep hr hb).trans hb14⟩
theorem ToldP.stay {p : ByteArray} {L : List LogM} {st : St} {W wr w10 w12 : World} {C : Nat} {PA : List Ev} {v v' : Value} {c : Cu} (h : ToldP p L st W C PA v wr) (hc : curOf cu0 PA = c) (hr : G wr w10)
    (hb : But (fun k => some k = v.ownBlock) w10 w12) (hrow : OwnL 32 7 Ev.cells w12 W.heap.size v' (onlyL p PA ++ [])) (hC12 : w12.heap[C]? = some (.cells (cuCs c) 38 (0, 0))) : ToldP p L st W C PA v' w12 :=
  ⟨h.ini, by rw [List.append_nil] at hrow; exact hrow, by rw [hc]; exact hC12, h.keep hr hb⟩
theorem first_max {F : Ev → Prop} {mx : Int} {o1 : List Ev} (h : IsFirst F mx o1) (hm : 1 ≤ mx) : (o1.length : Int) ≤ mx := by
  rcases h.2.2.2.1 with h1 | h1
  · exact h1
  · subst h1; simp; omega
/-- What the law counts. -/
def cntB (lo : St) (y : Ev) : Bool := picked lo cu0 y && matchB st1 y.stream
theorem cntB_eq (lo : St) (y : Ev) : cntB lo y = (stLt y.st lo && (validB y.stream && behind y cu0)) := by
  unfold cntB picked
  rw [match_star, Bool.and_assoc, Bool.and_comm (behind y cu0)]
theorem count_all {L : List LogM} {lo : St} {X es : List Ev} (h : AllOf (mergeF L lo cu0) X) (hap : Apart es) (hL : ∀ y, inLogs L y ↔ y ∈ es) : (onlyL st1 X).length = (es.filter (cntB lo)).length := by
  unfold onlyL
  rw [count_told (g := picked lo cu0) (f := fun x => matchB st1 x.stream) h hap fun y => by unfold mergeF; rw [hL]]
  rfl
theorem sorted_told {L : List LogM} {lo : St} {X : List Ev} (h : AllOf (mergeF L lo cu0) X) (hd : Dist (inLogs L)) : sortedB (onlyL st1 X) = true := h.ini.sorted (fun x => matchB st1 x.stream) hd
theorem low_told {L : List LogM} {lo : St} {X : List Ev} {x : Ev} (h : AllOf (mergeF L lo cu0) X) (hx : x ∈ onlyL st1 X) : stLt x.st lo = true := by
  have h1 := ((h.2 x).2 (List.mem_filter.1 hx).1).2
  unfold picked at h1
  rw [Bool.and_eq_true] at h1
  exact h1.1
theorem filter_snoc {f : Ev → Bool} {es : List Ev} {k : Nat} {x : Ev} (h : es[k]? = some x) : ((es.take (k + 1)).filter f).length = ((es.take k).filter f).length + (if f x = true then 1 else 0) := by
  rw [List.take_add_one, h, List.filter_append, List.length_append]
  simp only [Option.toList]
  cases hf : f x <;> simp [hf]
end Go.Proofs.YthhhobfdlgmjlaaDoor
/- A region that draws its order, its operations taken one by one: the moves. No condition. -/
namespace Go.Proofs.YthhhobfdlgmjlaaDoor
open Go.RowKit

section
variable {P : Program} {ops : Array Oper} {Q : Exit → Act → World → Prop} {md : Region.Mode} {S : World → Prop}
/-- Operation i is taken: it runs, and yields v in each world that meets S. -/
theorem lin_take (i : Nat) (d : Option Tmp) {v : Value} {fuel : Nat} {listed : Array Bool} {a : Act} {w : World} (hi : (ops[i]?.map Oper.dst) = some d)
    (hs : Region.noSelect ops = true) (hf : Region.free md ops listed i = true) (hr : (Region.ready md ops listed).contains i = true)
    (hQ : ∀ c a w, Q (.panic c) (a.put d v) w → Q (.panic c) a w) (hw : (ops[i]?.map fun o => Region.wanted o (yielded ops a.tmps)) = some true)
    (hv : ∀ w, S w → (ops[i]?.map fun o => (execOp a.eval o).run P w) = some (.ok (.value v) w)) (hS : S w)
    (h : wpAnyH P md ops Q S fuel (listed.setIfInBounds i true) (a.put d v) w) : wpAnyH P md ops Q S (fuel + 1) listed a w := by
  cases ho : ops[i]? with
  | none => rw [ho] at hi; cases hi
  | some o =>
    rw [ho] at hi hw
    cases hi
    refine wpAnyH_take ho hs hf hr hQ (.inl ⟨Option.some.inj hw, fun w hS => ?_⟩) hS h
    have := hv w hS
    rw [ho] at this
    exact Option.some.inj this
/-- Operation i is passed over: its guard says no. -/
theorem lin_pass (i : Nat) (d : Option Tmp) {fuel : Nat} {listed : Array Bool} {a : Act} {w : World} (hi : (ops[i]?.map Oper.dst) = some d)
    (hs : Region.noSelect ops = true) (hf : Region.free md ops listed i = true) (hr : (Region.ready md ops listed).contains i = true)
    (hQ : ∀ c a w, Q (.panic c) (a.put d undef) w → Q (.panic c) a w) (hw : (ops[i]?.map fun o => Region.wanted o (yielded ops a.tmps)) = some false) (hS : S w)
    (h : wpAnyH P md ops Q S fuel (listed.setIfInBounds i true) (a.put d undef) w) : wpAnyH P md ops Q S (fuel + 1) listed a w := by
  cases ho : ops[i]? with
  | none => rw [ho] at hi; cases hi
  | some o =>
    rw [ho] at hi hw
    cases hi
    exact wpAnyH_take ho hs hf hr hQ (.inr ⟨Option.some.inj hw, rfl⟩) hS h
end
end Go.Proofs.YthhhobfdlgmjlaaDoor
