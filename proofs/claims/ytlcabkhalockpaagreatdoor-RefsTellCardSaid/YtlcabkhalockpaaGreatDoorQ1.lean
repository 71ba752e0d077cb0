/- What closures, users and dead packs are, in plain words. No condition. -/
import Derived.Test.YtlcabkhalockpaaGreatDoorQ0
namespace Go.Proofs.YtlcabkhalockpaaGreatDoor
open Go.RowKit

/-- The dead ones, the last first. -/
def deadOf (l : List Pn) (live : List ByteArray) : List ByteArray := ((l.map (·.1)).reverse).filter fun s => !inB s live
theorem mem_dead {l : List Pn} {live : List ByteArray} {s : ByteArray} : s ∈ deadOf l live ↔ s ∈ l.map (·.1) ∧ s ∉ live := by
  unfold deadOf
  rw [List.mem_filter, List.mem_reverse]
  simp only [Bool.not_eq_true', inB_no]
theorem nodup_rev {l : List ByteArray} (h : l.Nodup) : l.reverse.Nodup := List.pairwise_reverse.2 (h.imp fun k => k.symm)
theorem dead_nodup {l : List Pn} {live : List ByteArray} (h : (l.map (·.1)).Nodup) : (deadOf l live).Nodup := (nodup_rev h).filter _
theorem len_filter (f : ByteArray → Bool) : ∀ l : List ByteArray, (l.filter f).length + (l.filter fun s => !f s).length = l.length
  | [] => rfl
  | x :: r => by
    have := len_filter f r
    cases h : f x <;> simp [h] <;> omega
theorem same_len : ∀ {a b : List ByteArray}, a.Nodup → b.Nodup → (∀ s, s ∈ a ↔ s ∈ b) → a.length = b.length := fun ha hb h => ((List.perm_ext_iff_of_nodup ha hb).2 h).length_eq
/-- Live ones and dead ones are all. -/
theorem live_dead {l : List Pn} (hg : Good l) {n live : List ByteArray} (hn : ∀ s ∈ n, s ∈ l.map (·.1)) (hc : Clo l n live) : live.length + (deadOf l live).length = l.length := by
  have h1 := len_filter (fun s => inB s live) (l.map (·.1)).reverse
  rw [List.length_reverse, List.length_map] at h1
  have h2 : live.length = ((l.map (·.1)).reverse.filter fun s => inB s live).length := same_len (up_nodup hc.1) ((nodup_rev hg.one).filter _) (fun s => by
    rw [List.mem_filter, List.mem_reverse, inB_iff]
    exact ⟨fun h => ⟨reach_in hg hn ((hc.2 s).1 h), h⟩, fun h => h.2⟩)
  unfold deadOf
  omega
theorem nodup_at {l X Y : List ByteArray} {d : ByteArray} (hl : l.Nodup) (h : l = X ++ d :: Y) {i : Nat} (hi : i < l.length) (hd : l[i] = d) : i = X.length := by
  subst h
  have hx : X.length < (X ++ d :: Y).length := by simp
  have e : (X ++ d :: Y)[X.length] = d := by simp
  exact (List.getElem_inj hl).1 (hd.trans e.symm)
/-- Whom a dead one is used by is dead, and stands ahead of it. -/
theorem dead_user {l : List Pn} (hg : Good l) {n live : List ByteArray} (hc : Clo l n live) {i : Nat} (hi : i < (deadOf l live).length) {p : Pn} (hp : p ∈ l) (hne : p.1 ≠ (deadOf l live)[i]) (hu : (deadOf l live)[i] ∈ p.2) :
    p.1 ∈ (deadOf l live).take i := by
  have hd := mem_dead.1 (List.getElem_mem hi)
  have hpl : p.1 ∉ live := fun h => hd.2 ((hc.2 _).2 (.step hp ((hc.2 _).1 h) hu))
  obtain ⟨k, hk, rfl⟩ := List.getElem_of_mem hp
  obtain ⟨j, hj, hjk, e⟩ := hg.ahead k hk _ hu
  have hjk' : j < k := by
    rcases Nat.lt_or_ge j k with h | h
    · exact h
    · obtain rfl : j = k := by omega
      exact absurd e hne
  have hs : l = l.take j ++ l[j] :: l.drop (j + 1) := by rw [List.getElem_cons_drop, List.take_append_drop]
  have hsp : deadOf l live = (((l.drop (j + 1)).map (·.1)).reverse.filter fun s => !inB s live) ++ l[j].1 :: (((l.take j).map (·.1)).reverse.filter fun s => !inB s live) := by
    have hl : (!inB l[j].1 live) = true := by rw [e, Bool.not_eq_true', inB_no]; exact hd.2
    have h0 : (l.map (·.1)).reverse = ((l.drop (j + 1)).map (·.1)).reverse ++ l[j].1 :: ((l.take j).map (·.1)).reverse := by
      have h1 : (l.map (·.1)) = (l.take j).map (·.1) ++ l[j].1 :: (l.drop (j + 1)).map (·.1) := by
        conv => lhs; rw [hs]
        rw [List.map_append, List.map_cons]
      rw [h1, List.reverse_append, List.reverse_cons, List.append_assoc]
      rfl
    unfold deadOf
    rw [h0, List.filter_append, List.filter_cons, if_pos hl]
  have hx := nodup_at (dead_nodup hg.one) hsp hi e.symm
  have ht : (deadOf l live).take i = ((l.drop (j + 1)).map (·.1)).reverse.filter fun s => !inB s live := by
    rw [hx]
    conv => lhs; rw [hsp]
    rw [List.take_left]
  rw [ht, List.mem_filter, List.mem_reverse]
  refine ⟨List.mem_map.2 ⟨l[k], ?_, rfl⟩, by rw [Bool.not_eq_true', inB_no]; exact hpl⟩
  have : l[k] = (l.drop (j + 1))[k - (j + 1)]'(by rw [List.length_drop]; omega) := by rw [List.getElem_drop]; congr 1; omega
  rw [this]
  exact List.getElem_mem _
/-- Without roots there is no live one. -/
theorem clo_nil {l : List Pn} {c : List ByteArray} (h : Clo l [] c) : c = [] := by
  have : ∀ s, ¬ Reach l [] s := fun s hs => by
    induction hs with
    | base k => cases k
    | step _ _ _ ih => exact ih
  exact List.eq_nil_iff_forall_not_mem.2 fun s hs => this s ((h.2 s).1 hs)
theorem dead_nil (l : List Pn) : deadOf l [] = (l.map (·.1)).reverse := by
  unfold deadOf
  exact List.filter_eq_self.2 (fun s _ => by simp [inB])
/-- Users of a name. -/
def usersOf (l : List Pn) (n : ByteArray) : List ByteArray := (l.filter fun p => !decide (p.1 = n) && inB n p.2).map (·.1)
theorem mem_users {l : List Pn} {n s : ByteArray} : s ∈ usersOf l n ↔ ∃ p ∈ l, p.1 = s ∧ s ≠ n ∧ n ∈ p.2 := by
  unfold usersOf
  rw [List.mem_map]
  constructor
  · rintro ⟨p, hp, rfl⟩
    rw [List.mem_filter] at hp
    simp only [Bool.and_eq_true, Bool.not_eq_true', decide_eq_false_iff_not, inB_iff] at hp
    exact ⟨p, hp.1, rfl, hp.2.1, hp.2.2⟩
  · rintro ⟨p, hp, rfl, h1, h2⟩
    refine ⟨p, List.mem_filter.2 ⟨hp, ?_⟩, rfl⟩
    simp only [Bool.and_eq_true, Bool.not_eq_true', decide_eq_false_iff_not, inB_iff]
    exact ⟨h1, h2⟩
theorem users_nodup {l : List Pn} (hg : (l.map (·.1)).Nodup) (n : ByteArray) : (usersOf l n).Nodup := by
  unfold usersOf
  exact (hg.sublist ((List.filter_sublist).map _))
/-- One that is used by another one: its closure lies in the other's. -/
theorem clo_user {l : List Pn} {a b : ByteArray} {c d : List ByteArray} (h : Clo l [a] c) (k : Clo l [b] d) (hp : ∃ p ∈ l, p.1 = b ∧ a ∈ p.2) : ∀ s ∈ c, s ∈ d := by
  intro s hs
  obtain ⟨p, hp, rfl, ha⟩ := hp
  refine (k.2 s).2 (((h.2 s).1 hs).mono fun t ht => ?_)
  obtain rfl : t = a := by simpa using ht
  exact .step hp (.base (by simp)) ha
/-- The closure of all names is all names. -/
theorem clo_all {l : List Pn} (hg : Good l) {n c : List ByteArray} (hn : ∀ s, s ∈ n ↔ s ∈ l.map (·.1)) (h : Clo l n c) : c.length = l.length ∧ ∀ s, s ∈ c ↔ s ∈ l.map (·.1) := by
  have hm : ∀ s, s ∈ c ↔ s ∈ l.map (·.1) := fun s => ⟨fun hs => reach_in hg (fun t ht => (hn t).1 ht) ((h.2 s).1 hs), fun hs => (h.2 s).2 (.base ((hn s).2 hs))⟩
  exact ⟨by rw [same_len (up_nodup h.1) hg.one hm, List.length_map], hm⟩
/-- What the walk keeps: seen ones and those to do. -/
structure Wk (l : List Pn) (names seen todo : List ByteArray) : Prop where
  all : ∀ s ∈ names, s ∈ seen ∨ s ∈ todo
  shut : ∀ p ∈ l, p.1 ∈ seen → ∀ s ∈ p.2, s ∈ seen ∨ s ∈ todo
  just : ∀ s, s ∈ seen ∨ s ∈ todo → Reach l names s
theorem Wk.start (l : List Pn) (n : List ByteArray) : Wk l n [] n := by
  refine ⟨fun _ h => .inr h, fun _ _ h => absurd h (by simp), fun s h => ?_⟩
  rcases h with h | h
  · cases h
  · exact .base h
theorem Wk.done {l : List Pn} {n seen : List ByteArray} (h : Wk l n seen []) : ∀ s, s ∈ seen ↔ Reach l n s := by
  refine fun s => ⟨fun hs => h.just s (.inl hs), fun hs => ?_⟩
  induction hs with
  | base k =>
    rcases h.all _ k with k | k
    · exact k
    · cases k
  | step hp _ hs ih =>
    rcases h.shut _ hp ih _ hs with k | k
    · exact k
    · cases k
theorem Wk.old {l : List Pn} {n seen todo : List ByteArray} {s : ByteArray} (h : Wk l n seen (s :: todo)) (hs : s ∈ seen) : Wk l n seen todo := by
  have hx : ∀ t, t ∈ seen ∨ t ∈ s :: todo → t ∈ seen ∨ t ∈ todo := fun t ht => by
    rcases ht with ht | ht
    · exact .inl ht
    · rcases List.mem_cons.1 ht with rfl | ht
      · exact .inl hs
      · exact .inr ht
  exact ⟨fun t ht => hx t (h.all t ht), fun p hp hps t ht => hx t (h.shut p hp hps t ht), fun t ht => h.just t (ht.imp id (List.mem_cons_of_mem _))⟩
theorem Wk.fresh {l : List Pn} {n seen todo : List ByteArray} {p : Pn} (hl : (l.map (·.1)).Nodup) (hp : p ∈ l) (h : Wk l n seen (p.1 :: todo)) : Wk l n (p.1 :: seen) (todo ++ p.2) := by
  have hx : ∀ t, t ∈ seen ∨ t ∈ p.1 :: todo → t ∈ p.1 :: seen ∨ t ∈ todo ++ p.2 := fun t ht => by
    rcases ht with ht | ht
    · exact .inl (List.mem_cons_of_mem _ ht)
    · rcases List.mem_cons.1 ht with rfl | ht
      · exact .inl (List.mem_cons_self ..)
      · exact .inr (List.mem_append_left _ ht)
  refine ⟨fun t ht => hx t (h.all t ht), fun q hq hqs t ht => ?_, fun t ht => ?_⟩
  · rcases List.mem_cons.1 hqs with e | e
    · have : q = p := by
        obtain ⟨i, hi, rfl⟩ := List.getElem_of_mem hq
        obtain ⟨j, hj, rfl⟩ := List.getElem_of_mem hp
        have : (l.map (·.1))[i]'(by simpa using hi) = (l.map (·.1))[j]'(by simpa using hj) := by simpa using e
        have := (List.getElem_inj hl).1 this
        subst this
        rfl
      subst this
      exact .inr (List.mem_append_right _ ht)
    · exact hx t (h.shut q hq e t ht)
  · rcases ht with ht | ht
    · rcases List.mem_cons.1 ht with rfl | ht
      · exact h.just _ (.inr (List.mem_cons_self ..))
      · exact h.just t (.inl ht)
    · rcases List.mem_append.1 ht with ht | ht
      · exact h.just t (.inr (List.mem_cons_of_mem _ ht))
      · exact .step hp (h.just _ (.inr (List.mem_cons_self ..))) ht
end Go.Proofs.YtlcabkhalockpaaGreatDoor
