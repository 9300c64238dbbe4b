/- Auctions and prices, plain: the trial of all sets gives the greatest sum until an end; the search gives its list. No condition. -/
import Derived.Test.YtlieoghhkioflaaDAuc
import Derived.Test.YtlieoghhkioflaaDPri
set_option linter.unusedSimpArgs false
set_option linter.unusedVariables false
namespace Go.Proofs.Ytlieoghhkioflaa
def apt (F T : Nat → Int) (i k : Nat) : Bool := decide (T i ≤ F k) || decide (T k ≤ F i)
def okA (F T : Nat → Int) (l : List Nat) (i : Nat) : Bool := l.all fun k => apt F T k i
def pw (F T : Nat → Int) : List Nat → Bool
 | [] => true
 | i :: e => (e.all fun k => apt F T i k) && pw F T e
theorem okL_pw (F T : Nat → Int) : ∀ (e l : List Nat),okL (okA F T) l e = (pw F T e && l.all fun k => e.all fun i => apt F T k i)
 | [],l => by simp [okL,pw]
 | i :: e,l => by
   rw [okL,okL_pw F T e (l ++ [i]),pw,okA,List.all_append]
   simp only [List.all_cons,List.all_nil,Bool.and_true]
   have : (l.all fun k => apt F T k i && e.all fun j => apt F T k j) = ((l.all fun k => apt F T k i) && l.all fun k => e.all fun j => apt F T k j) := by
    induction l with
    | nil => rfl
    | cons a l ih => simp only [List.all_cons,ih]; cases apt F T a i <;> cases (e.all fun j => apt F T a j) <;> cases (l.all fun k => apt F T k i) <;> simp
   rw [this]
   cases (l.all fun k => apt F T k i) <;> cases pw F T e <;> cases (l.all fun k => e.all fun j => apt F T k j) <;> simp
theorem okL_nil (F T : Nat → Int) (e : List Nat) : okL (okA F T) [] e = pw F T e := by
 rw [okL_pw]; simp
theorem apt_sym (F T : Nat → Int) (i k : Nat) : apt F T i k = apt F T k i := by
 simp only [apt,Bool.or_comm]
theorem pw_iff (F T : Nat → Int) : ∀ e : List Nat,e.Pairwise (fun x y => x < y) →
  (pw F T e = true ↔ ∀ i k,i ∈ e → k ∈ e → i ≠ k → apt F T i k = true)
 | [],_ => by simp [pw]
 | a :: e,h => by
   rw [List.pairwise_cons] at h
   rw [pw,Bool.and_eq_true,pw_iff F T e h.2,List.all_eq_true]
   constructor
   ·rintro ⟨h1,h2⟩ i k hi hk hik
    rcases List.mem_cons.1 hi with rfl | hi'
    ·rcases List.mem_cons.1 hk with rfl | hk'
     ·exact absurd rfl hik
     ·exact h1 k hk'
    ·rcases List.mem_cons.1 hk with rfl | hk'
     ·rw [apt_sym]; exact h1 i hi'
     ·exact h2 i k hi' hk' hik
   ·intro g
    refine ⟨fun k hk => g a k (List.mem_cons_self ..) (List.mem_cons_of_mem _ hk) ?_,fun i k hi hk hik => g i k (List.mem_cons_of_mem _ hi) (List.mem_cons_of_mem _ hk) hik⟩
    have := h.1 k hk; omega
def valL (V : Nat → Int) (l : List Nat) : Int := (l.map V).sum
def sAt (F T : Nat → Int) (x : Int) (l : List Nat) : Bool := (l.all fun i => decide (T i ≤ x)) && pw F T l
theorem filter_self (n : Nat) (l : List Nat) (h : ris n 0 l = true) : (List.range n).filter (fun i => decide (i ∈ l)) = l := by
 obtain ⟨h1,h2⟩ := ris_sorted n l 0 h
 refine sorted_ext _ _ (List.Pairwise.filter _ List.pairwise_lt_range) h1 ?_
 intro i
 simp only [List.mem_filter,List.mem_range,decide_eq_true_eq]
 exact ⟨fun q => q.2,fun q => ⟨(h2 i q).2,q⟩⟩
theorem allS_top (F T V : Nat → Int) (n : Nat) (x : Int) : IsTop F T V n x (allS n (valL V) (sAt F T x)).2 := by
 have hb := allS_best n (valL V) (sAt F T x) rfl rfl
 constructor
 ·obtain ⟨h1,h2⟩ := hb.mem
  have hs := (ris_sorted n _ 0 h1).1
  rw [sAt,Bool.and_eq_true,pw_iff F T _ hs,List.all_eq_true] at h2
  refine ⟨fun i => decide (i ∈ (allS n (valL V) (sAt F T x)).1),⟨?_,?_⟩,?_⟩
  ·intro i _ q
   have := h2.1 i (by simpa using q)
   simpa using this
  ·intro i k _ _ q r hik
   have := h2.2 i k (by simpa using q) (by simpa using r) hik
   simpa [apt] using this
  ·rw [← vS_list,filter_self n _ h1]; exact hb.eqv
 ·intro c hc
  have hm : ∀ i,i ∈ (List.range n).filter c → i < n ∧ c i = true := fun i hi => by
   simpa [List.mem_filter] using hi
  have hs : ((List.range n).filter c).Pairwise (fun x y => x < y) := List.Pairwise.filter _ List.pairwise_lt_range
  rw [← vS_list]
  refine hb.top _ ⟨sorted_ris n _ 0 hs (fun i hi => ⟨Nat.zero_le _,(hm i hi).1⟩),?_⟩
  rw [sAt,Bool.and_eq_true,pw_iff F T _ hs,List.all_eq_true]
  refine ⟨fun i hi => ?_,fun i k hi hk hik => ?_⟩
  ·simpa using hc.end_ i (hm i hi).1 (hm i hi).2
  ·have := hc.apart i k (hm i hi).1 (hm k hk).1 (hm i hi).2 (hm k hk).2 hik
   simpa [apt] using this
theorem srch_auction (F T V : Nat → Int) (n : Nat) (x : Int) (h : ∀ i,i < n → T i ≤ x) :
  srch n (okA F T) (valL V) = allS n (valL V) (sAt F T x) := by
 refine srch_all n _ _ _ rfl fun l hl => ?_
 rw [okL_nil,sAt]
 have : (l.all fun i => decide (T i ≤ x)) = true := by
  rw [List.all_eq_true]
  intro i hi
  simpa using h i ((ris_sorted n l 0 hl).2 i hi).2
 rw [this,Bool.true_and]
end Go.Proofs.Ytlieoghhkioflaa
