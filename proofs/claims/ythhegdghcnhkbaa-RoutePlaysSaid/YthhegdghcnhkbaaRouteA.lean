/-
  Route: what each function of the package does, as contracts.
-/
import Derived.Test.YthhegdghcnhkbaaSh
import Derived.Test.YthhegdghcnhkbaaEngW
namespace Go.Proofs.Ythhegdghcnhkbaa
open Go.RowKit

theorem Bk.ne {w : World} {a b : Nat} {cs ds : List Value} {t u : TypeId} (h : Bk w a cs t) (k : Bk w b ds u) (hne : t ≠ u) : a ≠ b := by
  rintro rfl
  obtain ⟨f1, h, _⟩ := h
  obtain ⟨f2, k, _⟩ := k
  rw [h] at k
  injection k with k
  injection k with _ k
  exact hne k

theorem made_list (z : Array Value) (hz : 0 < z.size) : ∀ n : Nat, (madeCells z (n * z.size)).toList = (List.replicate n z.toList).flatten := by
  intro n
  refine List.ext_getElem? fun i => ?_
  have h1 : (madeCells z (n * z.size)).toList[i]? = if i < n * z.size then some (z[i % z.size]!) else none := by
    unfold madeCells
    simp only [Array.getElem?_toList, Array.getElem?_map]
    by_cases h : i < n * z.size
    · simp [h]
    · have h' := Nat.le_of_not_lt h
      rw [if_neg h, Array.getElem?_eq_none (by simpa using h')]; rfl
  rw [h1]
  clear h1
  induction n generalizing i with
  | zero => simp
  | succ n ih =>
    simp only [List.replicate_succ, List.flatten_cons]
    rw [List.getElem?_append]
    have hm : (n + 1) * z.size = n * z.size + z.size := by rw [Nat.add_mul]; omega
    rw [hm]
    by_cases hi : i < z.size
    · have c1 : i < n * z.size + z.size := by omega
      have c2 : i < z.toList.length := by simpa using hi
      rw [if_pos c1, if_pos c2, Nat.mod_eq_of_lt hi]
      simp [hi]
    · have c2 : ¬ i < z.toList.length := by simpa using hi
      rw [if_neg c2]
      have := ih (i - z.size)
      simp only [Array.length_toList]
      rw [← this, ← Nat.mod_eq_sub_mod (by omega)]
      by_cases h2 : i < n * z.size + z.size
      · have c3 : i - z.size < n * z.size := by omega
        rw [if_pos h2, if_pos c3]
      · have c3 : ¬ i - z.size < n * z.size := by omega
        rw [if_neg h2, if_neg c3]

/-- beliefs as cells -/
def flatB : List (Int × Int) → List Value
  | [] => []
  | (o, e) :: r => .int .i64 o :: .int .i64 e :: flatB r
theorem flatB_len : ∀ l : List (Int × Int), (flatB l).length = l.length * 2
  | [] => rfl
  | (o, e) :: r => by simp [flatB, flatB_len r]; omega
theorem flatB_rep : ∀ n, flatB (List.replicate n (0, 0)) = (List.replicate n [Value.int .i64 0, Value.int .i64 0]).flatten
  | 0 => rfl
  | n + 1 => by simp [List.replicate_succ, flatB, flatB_rep n]
theorem flatB_at : ∀ (l : List (Int × Int)) (rest : List Value) (i : Nat) (h : i < l.length), ((flatB l ++ rest).drop (i * 2)).take 2 = [.int .i64 (l[i]).1, .int .i64 (l[i]).2]
  | (o, e) :: r, rest, 0, h => by simp [flatB]
  | (o, e) :: r, rest, i + 1, h => by
    have := flatB_at r rest i (by simpa using h)
    rw [show (i + 1) * 2 = i * 2 + 2 by omega]
    simpa [flatB] using this
theorem flatB_set : ∀ (l : List (Int × Int)) (rest : List Value) (i : Nat) (h : i < l.length) (o e : Int), (flatB l ++ rest).take (i * 2) ++ [.int .i64 o, .int .i64 e] ++ (flatB l ++ rest).drop (i * 2 + 2) = flatB (l.set i (o, e)) ++ rest
  | (o', e') :: r, rest, 0, h, o, e => by simp [flatB]
  | (o', e') :: r, rest, i + 1, h, o, e => by
    have := flatB_set r rest i (by simpa using h) o e
    rw [show (i + 1) * 2 = i * 2 + 2 by omega]
    simpa [flatB] using this

/-- a route in memory -/
def RepR (w : World) (a lb : Nat) (st at_ : Int) (l : List (Int × Int)) : Prop :=
  ∃ (cap : Nat) (rest : List Value), Bk w a [.int .i64 st, .int .i64 at_, .slice (some ⟨lb, 0, none⟩) l.length cap] 51 ∧ Bk w lb (flatB l ++ rest) 53
theorem RepR.ext {M : List Nat} {w w' : World} {a lb : Nat} {st at_ : Int} {l : List (Int × Int)} (h : RepR w a lb st at_ l) (e : Ext M w w') (h1 : a ∉ M) (h2 : lb ∉ M) : RepR w' a lb st at_ l :=
  let ⟨c, r, h, k⟩ := h; ⟨c, r, h.ext e h1, k.ext e h2⟩
theorem RepR.ne {w : World} {a lb : Nat} {st at_ : Int} {l : List (Int × Int)} (h : RepR w a lb st at_ l) : a ≠ lb := let ⟨_, _, h, k⟩ := h; h.ne k (by decide)
theorem RepR.lt {w : World} {a lb : Nat} {st at_ : Int} {l : List (Int × Int)} (h : RepR w a lb st at_ l) : a < w.heap.size ∧ lb < w.heap.size := let ⟨_, _, h, k⟩ := h; ⟨h.lt, k.lt⟩

theorem in_spec (n least most : Int) (w : World) : Calls Try.prog 22 #[.int .i64 n, .int .i64 least, .int .i64 most] w fun e w' => e = .returned (.bool (decide (least ≤ n) && decide (n ≤ most))) ∧ w' = w := by
  refine sh_route_in_ok _ _ _ _ _ ?_
  unfold sh_route_in
  exact ⟨rfl, rfl⟩

theorem New_bad (sh st : Int) (w : World) (h : ¬ (1 ≤ sh ∧ sh ≤ 4 ∧ 1 ≤ st ∧ st ≤ 5)) : Calls Try.prog 9 #[.int .i64 sh, .int .i64 st] w fun e w' => e = .returned (.tuple #[.pointer none, .int .i64 1]) ∧ w' = w := by
  refine sh_route_New_ok _ _ _ _ ?_
  unfold sh_route_New
  refine VIf.t ?_ ⟨rfl, rfl⟩
  simp; omega
theorem New_good (sh st : Int) (w : World) (h : 1 ≤ sh ∧ sh ≤ 4 ∧ 1 ≤ st ∧ st ≤ 5) : Calls Try.prog 9 #[.int .i64 sh, .int .i64 st] w fun e w' =>
    ∃ a lb, e = .returned (.tuple #[.pointer (some ⟨a, 0, none⟩), .int .i64 0]) ∧ RepR w' a lb st 0 (List.replicate sh.toNat (0, 0)) ∧ Ext [] w w' ∧ w.heap.size ≤ a ∧ w.heap.size ≤ lb := by
  refine sh_route_New_ok _ _ _ _ ?_
  unfold sh_route_New
  refine VIf.f (by simp; omega) ?_
  refine VMk.i (by omega) (by omega) (by omega) (by omega) fun b w1 hb hk e1 => ?_
  refine VNw.i fun a w2 ha hk2 e2 => ?_
  refine ⟨a, b, rfl, ⟨_, [], by simpa using hk2, ?_⟩, e1.then0 e2, by have := e1.size; omega, by omega⟩
  have hm := made_list #[.int .i64 0, .int .i64 0] (by simp) sh.toNat
  simp only [List.size_toArray, List.length_cons, List.length_nil, Nat.zero_add, Nat.reduceAdd] at hm
  rw [hm] at hk
  rw [flatB_rep, List.append_nil]
  exact hk.ext e2

def learnOk (st : Int) (l : List (Int × Int)) (shard epoch owner : Int) : Bool :=
  decide (0 ≤ shard ∧ shard < l.length ∧ 1 ≤ owner ∧ owner ≤ st ∧ 1 ≤ epoch ∧ epoch ≤ 2147483647) && (let b := l.getD shard.toNat (0, 0); (b.1 == 0 && b.2 == 0) || decide (b.2 < epoch))
def learn (st : Int) (l : List (Int × Int)) (shard epoch owner : Int) : List (Int × Int) :=
  if learnOk st l shard epoch owner then l.set shard.toNat (owner, epoch) else l

theorem Learn_spec (a lb : Nat) (st at_ : Int) (l : List (Int × Int)) (shard epoch owner : Int) (w : World) (h : RepR w a lb st at_ l) :
    Calls Try.prog 10 #[.pointer (some ⟨a, 0, none⟩), .int .i64 shard, .int .i64 epoch, .int .i64 owner] w fun e w' =>
      e = .returned (.bool (learnOk st l shard epoch owner)) ∧ RepR w' a lb st at_ (learn st l shard epoch owner) ∧ Ext [lb] w w' := by
  refine sh_route_Route_Learn_ok _ _ _ _ _ _ ?_
  unfold sh_route_Route_Learn
  obtain ⟨cap, rest, ha, hl⟩ := h
  refine VNN.i ?_
  refine VLd.sl _ _ _ (Rd.of_bk ha rfl) ?_
  refine VNN.i ?_
  refine VLd.i1 st (Rd.of_bk ha rfl) ?_
  refine VIf.mk (fun hc => ?_) (fun hc => ?_)
  · simp at hc
    have : learnOk st l shard epoch owner = false := by
      unfold learnOk
      rw [Bool.and_eq_false_iff]; left
      simp; omega
    refine ⟨by rw [this], by rw [learn, this]; exact ⟨cap, rest, ha, hl⟩, Ext.refl _ _⟩
  · simp at hc
    obtain ⟨i, rfl⟩ : ∃ i : Nat, shard = i := ⟨shard.toNat, by omega⟩
    have hi : i < l.length := by omega
    refine VNN.i ?_
    refine VLd.sl _ _ _ (Rd.of_bk ha rfl) ?_
    refine VIx.i (by omega) (by simp; omega) ?_
    simp only [add_blk, Int.toNat_natCast, Nat.zero_add]
    refine VLd.i2 (l[i]).1 (l[i]).2 (Rd.of_bk hl (flatB_at l rest i hi)) ?_
    refine VNw.i fun o w1 ho hko e1 => ?_
    refine VSt.bk hko rfl (by simp) fun w2 hk2 e2 => ?_
    have hk2 : Bk w2 o [.int .i64 (l[i]).1, .int .i64 (l[i]).2] 53 := by simpa using hk2
    have ha1 := (ha.ext e1).ext e2 (by have := ha.lt; simp; omega)
    have hl1 := (hl.ext e1).ext e2 (by have := hl.lt; simp; omega)
    have e12 : Ext [] w w2 := e1.then e2 (fun k hk hlt => by simp at hk; omega)
    refine VLd.i2 (l[i]).1 (l[i]).2 (Rd.of_bk hk2 rfl) ?_
    refine VLd.i1 (l[i]).2 (Rd.of_bk hk2 rfl) ?_
    have hg : l.getD i (0, 0) = l[i] := by simp [hi]
    refine VIf.mk (fun hd => ?_) (fun hd => ?_)
    · have : learnOk st l i epoch owner = false := by
        unfold learnOk
        simp only [Int.toNat_natCast, hg]
        simp at hd ⊢
        intros
        omega
      refine ⟨by rw [this], by rw [learn, this]; exact ⟨cap, rest, ha1, hl1⟩, e12.mono (by simp)⟩
    · have : learnOk st l i epoch owner = true := by
        unfold learnOk
        simp only [Int.toNat_natCast, hg]
        simp at hd ⊢
        refine ⟨by omega, by omega⟩
      refine VNN.i ?_
      refine VLd.sl _ _ _ (Rd.of_bk ha1 rfl) ?_
      refine VIx.i (by omega) (by simp; omega) ?_
      simp only [add_blk, Int.toNat_natCast, Nat.zero_add]
      refine VSt.bk hl1 rfl (by rw [List.length_append, flatB_len]; simp; omega) fun w3 hk3 e3 => ?_
      simp only [List.length_cons, List.length_nil, Nat.zero_add, Nat.reduceAdd] at hk3
      rw [flatB_set l rest i hi] at hk3
      refine ⟨by rw [this], ?_, (e12.mono (by simp)).then e3 (by simp)⟩
      rw [learn, this]
      simp only [if_true, Int.toNat_natCast]
      exact ⟨cap, rest, by simpa using ha1.ext e3 (by have := ha1.ne hl1 (by decide); simpa using this), hk3⟩
end Go.Proofs.Ythhegdghcnhkbaa
