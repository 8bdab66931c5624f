/- Feeds with a gap, a double, or two turned: lists of events alone, no program. No condition. -/
import Derived.Test.YtnenabacbhepdaaStreams
import Derived.Test.YtnenabacbhepdaaFewer
namespace Go.Proofs.Ytnenabacbhepdaa

/-- The i-th event of the feed. -/
def evT (i : Nat) : Ev := ⟨⟨#[97]⟩, (i : Int) + 1, ByteArray.empty, ⟨(i : Int) + 1, 0, 1⟩, 0⟩
def feedT (i m : Nat) : List Ev := (List.range' i m).map evT
theorem feedT_length (i m : Nat) : (feedT i m).length = m := by simp [feedT]
theorem feedT_get (i m j : Nat) (h : j < m) : (feedT i m)[j]? = some (evT (i + j)) := by
  simp [feedT, List.getElem?_range', h]
theorem feedT_succ (i m : Nat) : feedT i (m + 1) = feedT i m ++ [evT (i + m)] := by
  simp [feedT, List.range'_concat]
theorem feedT_cons (i m : Nat) : feedT i (m + 1) = evT i :: feedT (i + 1) m := by
  simp [feedT, List.range'_succ]
theorem feedT_append (i a b : Nat) : feedT i a ++ feedT (i + a) b = feedT i (a + b) := by
  simp [feedT, ← List.map_append, List.range'_append]
theorem feedT_take (i m k : Nat) (h : k ≤ m) : (feedT i m).take k = feedT i k := by
  obtain ⟨r, rfl⟩ : ∃ r, m = k + r := ⟨m - k, by omega⟩
  rw [← feedT_append, List.take_left' (feedT_length i k)]
theorem feedT_drop (i m k : Nat) : (feedT i m).drop k = feedT (i + k) (m - k) := by
  unfold feedT
  rw [← List.map_drop, List.drop_range']
  simp
theorem upd_upd (g : ByteArray → Int) (s : ByteArray) (a b : Int) : upd (upd g s a) s b = upd g s b := by
  funext t
  by_cases h : t = s
  · subst h; rw [upd_same, upd_same]
  · rw [upd_other _ _ h, upd_other _ _ h, upd_other _ _ h]
theorem streams_feed (g : ByteArray → Int) (rest : List Ev) : ∀ (m i : Nat), streamsFrom (upd g ⟨#[97]⟩ i) (feedT i m ++ rest) = streamsFrom (upd g ⟨#[97]⟩ ((i + m : Nat) : Int)) rest := by
  intro m
  induction m with
  | zero => intro i; simp [feedT]
  | succ m ih =>
    intro i
    rw [feedT_cons, List.cons_append]
    simp only [streamsFrom]
    have e : (evT i).stream = ⟨#[97]⟩ := rfl
    have v : (evT i).version = (i : Int) + 1 := rfl
    rw [e, v, upd_same, if_pos rfl, upd_upd]
    have := ih (i + 1)
    rw [show ((i + 1 : Nat) : Int) = (i : Int) + 1 from by omega] at this
    rw [this]
    congr 2
    omega
theorem upd_zero : upd (fun _ => 0) ⟨#[97]⟩ ((0 : Nat) : Int) = fun _ => 0 := by
  funext t
  simp [upd]
theorem streams_feed0 (m : Nat) (rest : List Ev) : streamsB (feedT 0 m ++ rest) = streamsFrom (upd (fun _ => 0) ⟨#[97]⟩ (m : Int)) rest := by
  have := streams_feed (fun _ => 0) rest m 0
  rw [upd_zero, Nat.zero_add] at this
  exact this
theorem streams_whole (m : Nat) : streamsB (feedT 0 m) = true := by
  have := streams_feed0 m []
  rw [List.append_nil] at this
  rw [this]; rfl
theorem streams_wrong (m i : Nat) (rest : List Ev) (h : i ≠ m) : streamsB (feedT 0 m ++ evT i :: rest) = false := by
  rw [streams_feed0]
  simp only [streamsFrom]
  have e : (evT i).stream = ⟨#[97]⟩ := rfl
  have v : (evT i).version = (i : Int) + 1 := rfl
  rw [e, v, upd_same, if_neg (by omega)]
theorem sorted_feed (m : Nat) : sortedB (feedT 0 m) = true := by
  rw [sortedB_iff]
  intro j a b ha hb
  have h1 := (List.getElem?_eq_some_iff.1 hb).1
  rw [feedT_length] at h1
  rw [feedT_get _ _ _ (by omega)] at ha hb
  simp only [Option.some.injEq] at ha hb
  subst ha hb
  simp only [evLt, evT, St.mk.injEq]
  rw [if_neg (by omega)]
  simp only [stLt]
  rw [if_neg (by omega)]
  simp; omega
/-- What the law makes of the feed: 0 a gap, 1 a double, else two turned. -/
def tornT (n k how : Nat) : List Ev :=
  if how = 0 then feedT 0 k ++ feedT (k + 1) (n - (k + 1)) else if how = 1 then feedT 0 k ++ [evT k] ++ feedT k (n - k) else feedT 0 k ++ [evT (k + 1), evT k] ++ feedT (k + 2) (n - (k + 2))
theorem torn_streams (n k how : Nat) (h : k + 2 ≤ n) : streamsB (tornT n k how) = false := by
  unfold tornT
  split
  · obtain ⟨r, hr⟩ : ∃ r, n - (k + 1) = r + 1 := ⟨n - (k + 1) - 1, by omega⟩
    rw [hr, feedT_cons]
    exact streams_wrong k (k + 1) _ (by omega)
  · split
    · obtain ⟨r, hr⟩ : ∃ r, n - k = r + 1 := ⟨n - k - 1, by omega⟩
      have e : feedT 0 k ++ [evT k] = feedT 0 (k + 1) := by rw [feedT_succ, Nat.zero_add]
      rw [hr, feedT_cons, e]
      exact streams_wrong (k + 1) k _ (by omega)
    · rw [List.append_assoc]
      exact streams_wrong k (k + 1) _ (by omega)
theorem evT_inj {i j : Nat} (h : evT i = evT j) : i = j := by
  have := congrArg Ev.version h
  simp only [evT] at this
  omega
theorem torn_prefix (n k how : Nat) (h : k + 2 ≤ n) : prefB (tornT n k how) (feedT 0 n) = false := by
  cases hp : prefB (tornT n k how) (feedT 0 n) with
  | false => rfl
  | true =>
    rw [prefB_iff] at hp
    obtain ⟨t, ht⟩ := hp
    have hk : (feedT 0 n)[k]? = some (evT k) := by rw [feedT_get _ _ _ (by omega), Nat.zero_add]
    have hk1 : (feedT 0 n)[k + 1]? = some (evT (k + 1)) := by rw [feedT_get _ _ _ (by omega), Nat.zero_add]
    rw [← ht] at hk hk1
    have hl := feedT_length 0 k
    unfold tornT at hk hk1
    split at hk
    · rename_i h0
      rw [List.append_assoc, List.getElem?_append_right (by omega), hl, Nat.sub_self] at hk
      obtain ⟨r, hr⟩ : ∃ r, n - (k + 1) = r + 1 := ⟨n - (k + 1) - 1, by omega⟩
      rw [hr, feedT_cons] at hk
      simp at hk
      have := evT_inj hk
      omega
    · rename_i h0
      rw [if_neg h0] at hk1
      split at hk1
      · rw [List.append_assoc, List.append_assoc, List.getElem?_append_right (by omega), hl, show k + 1 - k = 1 from by omega] at hk1
        obtain ⟨r, hr⟩ : ∃ r, n - k = r + 1 := ⟨n - k - 1, by omega⟩
        rw [hr, feedT_cons] at hk1
        simp at hk1
        have := evT_inj hk1
        omega
      · rename_i h1
        rw [if_neg h1, List.append_assoc, List.append_assoc, List.getElem?_append_right (by omega), hl, Nat.sub_self] at hk
        simp at hk
        have := evT_inj hk
        omega
theorem one_feed (A : Option Addr) (c n : Nat) (h : 0 < n) : (longOf [⟨A, c, feedT 0 n⟩]).es = feedT 0 n := by
  simp only [longOf, List.foldl_cons, List.foldl_nil, longer, List.length_nil, feedT_length]
  rw [if_pos h]
theorem one_feed_ok (A : Option Addr) (c n : Nat) (h : 0 < n) : (allPre [⟨A, c, feedT 0 n⟩] (longOf [⟨A, c, feedT 0 n⟩]).es && sortedB (longOf [⟨A, c, feedT 0 n⟩]).es) = true := by
  refine one_of_pre (x := feedT 0 n) (fun l hl => ?_) (sorted_feed n)
  simp at hl
  subst hl
  exact List.prefix_rfl
theorem torn_length (n k how : Nat) (h : k + 2 ≤ n) : (tornT n k how).length ≤ n + 1 := by
  unfold tornT
  split
  · simp [feedT_length]; omega
  · split
    · simp [feedT_length]; omega
    · simp [feedT_length]; omega
theorem feedT_small (i m : Nat) : ∀ e ∈ feedT i m, e.stream.size ≤ 9223372036854775807 := by
  intro e he
  unfold feedT at he
  rw [List.mem_map] at he
  obtain ⟨x, _, rfl⟩ := he
  show (⟨#[97]⟩ : ByteArray).size ≤ _
  decide
theorem evT_small (i : Nat) : (evT i).stream.size ≤ 9223372036854775807 := by
  show (⟨#[97]⟩ : ByteArray).size ≤ _
  decide
theorem torn_small (n k how : Nat) : ∀ e ∈ tornT n k how, e.stream.size ≤ 9223372036854775807 := by
  intro e he
  unfold tornT at he
  split at he
  · rcases List.mem_append.1 he with h | h
    · exact feedT_small _ _ e h
    · exact feedT_small _ _ e h
  · split at he
    · rcases List.mem_append.1 he with h | h
      · rcases List.mem_append.1 h with h | h
        · exact feedT_small _ _ e h
        · simp at h; subst h; exact evT_small _
      · exact feedT_small _ _ e h
    · rcases List.mem_append.1 he with h | h
      · rcases List.mem_append.1 h with h | h
        · exact feedT_small _ _ e h
        · simp at h; rcases h with rfl | rfl <;> exact evT_small _
      · exact feedT_small _ _ e h
end Go.Proofs.Ytnenabacbhepdaa
