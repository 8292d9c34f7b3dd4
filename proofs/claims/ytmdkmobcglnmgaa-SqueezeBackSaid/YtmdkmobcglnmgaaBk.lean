/- By their own grouping right tables are made narrow, and wide again: plain, and as contracts. Conditions: right tables of the grouping. -/
import Derived.Test.YtmdkmobcglnmgaaRun
import Derived.Test.YtmdkmobcglnmgaaWd2
import Derived.Test.YtmdkmobcglnmgaaAwk
namespace Go.Proofs.Ytmdkmobcglnmgaa
open Go.RowKit

def narD (gs : List Int) (d : D) : D := ⟨d.next.map fun r => narrowL gs r (manyL gs).toNat, d.tells⟩
theorem good_right {ds : List D} {d : D} (hd : d ∈ goodD ds) : rightB d = true := (List.mem_filter.1 hd).2
theorem widRow_back {gs r r' : List Int} (hg : gs.length = 37) (hr : r.length = 37) (h : ∀ m, m < 37 → nth r' (nth gs m).toNat = nth r m) : widRow gs r' = r := by
  refine nth_ext (by simp [widRow, hg, hr]) fun m hm => ?_
  have hm37 : m < 37 := by simpa [widRow, hg] using hm
  rw [widRow_at _ _ (by omega)]
  exact h m hm37
theorem wid_backG {gs : List Int} {d : D} (hg : gs.length = 37) (hm0 : 0 ≤ manyL gs) (hn : manyL gs ≠ 0) (hr : ∀ r ∈ d.next, r.length = 37 ∧ ∀ m, m < 37 → nth (narrowL gs r (manyL gs).toNat) (nth gs m).toNat = nth r m) : widD gs (narD gs d) = d := by
  have hok : ∀ r ∈ (narD gs d).next, widOk gs r := by
    intro r hr'
    obtain ⟨r0, _, rfl⟩ := List.mem_map.1 hr'
    exact ⟨by rw [narrowL_len]; omega, hn⟩
  unfold widD
  rw [if_pos hok]
  have hnext : ((narD gs d).next.map (widRow gs)) = d.next := by
    unfold narD
    rw [List.map_map]
    have : ∀ r ∈ d.next, (widRow gs ∘ fun r => narrowL gs r (manyL gs).toNat) r = r := fun r h => widRow_back hg (hr r h).1 (hr r h).2
    rw [List.map_congr_left this, List.map_id']
  rw [hnext]
  rfl
theorem wid_back {ds : List D} {d : D} (hd : d ∈ goodD ds) : widD (groupsL ds) (narD (groupsL ds) d) = d :=
  wid_backG (groupsL_len ds) (manyL_le _).1 (groupsL_many ds) fun r hr => ⟨((right_rows (good_right hd)).2.2.2 r hr).1, groupsL_narrow ds hd hr⟩

/-- What Make answers by the tables' own grouping. -/
def MadeB (w : World) (gs : List Int) (d : D) (e : Ending) (w' : World) : Prop :=
  ∃ gA gc nA nc tA tc, e = .returned (.tuple #[.agg #[.slice gA 37 gc, .slice nA d.next.length nc, .slice tA d.tells.length tc], .int .i64 0]) ∧
    IsNums .i64 w' (fun _ => True) (.slice gA 37 gc) gs ∧ IsD w' (fun _ => True) (.agg #[.slice nA d.next.length nc, .slice tA d.tells.length tc]) (narD gs d) ∧ Below w.heap.size w w'
theorem make_back (S S' : Nat → Prop) (vg vd : Value) (ds : List D) (d : D) (w : World) (hg : IsNums .i64 w S vg (groupsL ds)) (hd : IsD w S' vd d) (hm : d ∈ goodD ds) :
    Calls Try.prog 21 #[vg, vd] w (MadeB w (groupsL ds) d) :=
  (make_ok S S' vg vd (groupsL ds) d w hg hd (groupsL_many ds) (good_right hm) (fun r hr => groupsL_fits ds hm hr)).mono fun e w' h => by
    obtain ⟨gA, gc, nA, nc, tA, tc, us, he, h1, h2, h3, h4, h5⟩ := h
    exact ⟨gA, gc, nA, nc, tA, tc, he, (own_nums h1).mono (fun _ _ _ => trivial), ⟨_, _, rfl, (made_rows h2 h3).mono (fun _ _ _ => trivial), (own_nums h4).mono (fun _ _ _ => trivial)⟩, h5⟩
def WidedB (w : World) (d : D) (e : Ending) (w' : World) : Prop :=
  ∃ nA nc tA tc, e = .returned (.tuple #[.agg #[.slice nA d.next.length nc, .slice tA d.tells.length tc], .bool true]) ∧
    IsD w' (fun _ => True) (.agg #[.slice nA d.next.length nc, .slice tA d.tells.length tc]) d ∧ Below w.heap.size w w'
theorem wide_back (S : Nat → Prop) (gA nA tA : Option Addr) (gc nc tc : Nat) (ds : List D) (d : D) (w : World) (hg : IsNums .i64 w S (.slice gA 37 gc) (groupsL ds)) (hd : IsD w S (.agg #[.slice nA d.next.length nc, .slice tA d.tells.length tc]) (narD (groupsL ds) d)) (hm : d ∈ goodD ds) :
    Calls Try.prog 27 #[.agg #[.slice gA 37 gc, .slice nA d.next.length nc, .slice tA d.tells.length tc]] w (WidedB w d) := by
  have hl := groupsL_len ds
  have hrr := right_rows (good_right hm)
  have hnl : (narD (groupsL ds) d).next.length = d.next.length := by simp [narD]
  have h := nwide_any S gA nA tA gc nc tc (groupsL ds) (narD (groupsL ds) d) w (by rw [hl]; exact hg) (by rw [hnl]; exact hd) (by rw [hnl]; exact hrr.1) (by show d.tells.length ≤ 1000; omega)
  have hnt : (narD (groupsL ds) d).tells = d.tells := rfl
  rw [hl, hnl, hnt] at h
  refine h.mono fun e w' h => ?_
  obtain ⟨x, NA, nc', TA, tc', hx, he, hxd, hb⟩ := h
  rw [wid_back hm, if_pos (good_right hm)] at hx
  subst hx
  rw [wid_back hm, good_right hm] at he
  exact ⟨_, _, _, _, he, hxd.mono (fun _ _ _ => trivial), hb⟩

theorem run_one (d : D) {s i : Nat} (hr : rightB d = true) (hs : s < d.next.length) (hi : i < 37) : runL d s [(i : Int)] = nth (row d.next s) i := by
  have hst : stateB d s = true := by simp [stateB, hr, hs]
  unfold runL
  rw [if_pos hst]
  simp only [runGo]
  rw [if_neg (by omega)]
  simp
/-- Do two marks do the same in the first k rows? -/
def sameRows (rs : List (List Int)) (i j : Nat) : Bool := rs.all fun r => decide (nth r i = nth r j)
theorem groups_two {a b : D} (ha : rightB a = true) (hb : rightB b = true) {i j : Nat} (hi : i < 37) (hj : j < 37) :
    decide (nth (groupsL [a, b]) i = nth (groupsL [a, b]) j) = (sameRows a.next i j && sameRows b.next i j) := by
  have hg : goodD [a, b] = [a, b] := by simp [goodD, ha, hb]
  rw [Bool.eq_iff_iff, decide_eq_true_eq, groupsL_same [a, b] hi hj, hg]
  simp [sameRows]
end Go.Proofs.Ytmdkmobcglnmgaa
