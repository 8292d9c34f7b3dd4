/- A mark's column: where it leads, state by state, as a text. Condition: the tables are small. -/
import Derived.Test.YtmdkmobcglnmgaaClone
import Derived.Test.YtmdkmobcglnmgaaBaseM
import Derived.Deep.RegionHeld3
namespace Go.Proofs.Ytmdkmobcglnmgaa
open Go.RowKit

theorem info5 : (Try.prog.info? 5).map (fun i => (i.zero, i.size, i.bytes)) = some (some (.int .u8 0), 1, 1) := by kernel_rfl

/-- The slice of tables: its cells, two a table. -/
def IsDs (w : World) (S : Nat → Prop) (v : Value) (ds : List D) : Prop :=
  ∃ A c vs, v = .slice A ds.length c ∧ ds.length ≤ c ∧ c ≤ maxLen ∧ Arr w S A vs ∧ vs.length = 2 * ds.length ∧
    ∀ (k : Nat) (d : D), ds[k]? = some d → ∃ nv tv, vs[2 * k]? = some nv ∧ vs[2 * k + 1]? = some tv ∧ IsRows w S nv d.next ∧ IsNums .u64 w S tv d.tells

/-- The k-th table of a slice of tables: its two cells. -/
theorem ds_at {w : World} {S : Nat → Prop} {A : Option Addr} {vs : List Value} {ds : List D} (hA : Arr w S A vs)
    (hD : ∀ (k : Nat) (d : D), ds[k]? = some d → ∃ nv tv, vs[2 * k]? = some nv ∧ vs[2 * k + 1]? = some tv ∧ IsRows w S nv d.next ∧ IsNums .u64 w S tv d.tells) {k : Nat} {d : D} (hk : ds[k]? = some d) :
    ∃ b o nv tv, A = some ⟨b, o, none⟩ ∧ S b ∧ b < w.heap.size ∧ w.cell? ⟨b, o + k * 2, none⟩ = some nv ∧ w.cell? ⟨b, o + k * 2 + 1, none⟩ = some tv ∧ IsRows w S nv d.next ∧ IsNums .u64 w S tv d.tells := by
  obtain ⟨nv, tv, h1, h2, h3, h4⟩ := hD k d hk
  obtain ⟨b, o, rfl, hs, hb, hc1⟩ := hA.at h1
  obtain ⟨b', o', e, _, _, hc2⟩ := hA.at h2
  obtain ⟨rfl, rfl⟩ : b = b' ∧ o = o' := by simpa using e
  exact ⟨b, o, nv, tv, rfl, hs, hb, by rw [Nat.mul_comm k 2]; exact hc1, by rw [Nat.mul_comm k 2, Nat.add_assoc]; exact hc2, h3, h4⟩

def two (z : Int) : List Int := [IntKind.u8.wrap (z / 256), IntKind.u8.wrap z]
def rowsCol (rs : List (List Int)) (m : Nat) : List Int := rs.flatMap fun r => two (nth r m)
def dsCol (ds : List D) (m : Nat) : List Int := ds.flatMap fun d => rowsCol d.next m
def total (ds : List D) : Nat := (ds.map fun d => d.next.length).sum

theorem len_rowsCol (rs : List (List Int)) (m : Nat) : (rowsCol rs m).length = 2 * rs.length := by
  induction rs with
  | nil => rfl
  | cons r rs ih => simp only [rowsCol, List.flatMap_cons, List.length_append] at ih ⊢; rw [ih]; simp [two]; omega
theorem len_dsCol (ds : List D) (m : Nat) : (dsCol ds m).length = 2 * total ds := by
  induction ds with
  | nil => rfl
  | cons d ds ih =>
    simp only [dsCol, List.flatMap_cons, List.length_append, total, List.map_cons, List.sum_cons] at ih ⊢
    rw [ih, len_rowsCol]; omega
theorem total_take (ds : List D) {k : Nat} {d : D} (h : ds[k]? = some d) : total (ds.take (k + 1)) = total (ds.take k) + d.next.length := by
  rw [List.take_add_one, h]; simp [total, List.sum_append]
theorem total_le (ds : List D) (k : Nat) : total (ds.take k) ≤ total ds := by
  have : ds = ds.take k ++ ds.drop k := (List.take_append_drop k ds).symm
  have h2 : total ds = total (ds.take k) + total (ds.drop k) := by
    conv => lhs; rw [this]
    simp only [total, List.map_append, List.sum_append]
  omega
theorem len_part (ds : List D) (m : Nat) {k : Nat} {d : D} (h : ds[k]? = some d) (j : Nat) (hj : j ≤ d.next.length) : (dsCol (ds.take k) m ++ rowsCol (d.next.take j) m).length ≤ 2 * total ds := by
  rw [List.length_append, len_dsCol, len_rowsCol, List.length_take]
  have := total_take ds h
  have := total_le ds (k + 1)
  omega

set_option maxRecDepth 100000 in
set_option maxHeartbeats 400000 in
theorem col_any (S : Nat → Prop) (v : Value) (ds : List D) (m : Nat) (w : World) (h : IsDs w S v ds) (hr : ∀ d ∈ ds, ∀ r ∈ d.next, m < r.length ∧ 0 ≤ nth r m ∧ nth r m < 65536) (ht : total ds ≤ 1000000) :
    Calls Try.prog 46 #[v, .int .i64 m] w fun e w' => e = .returned (.string (bytesOf (dsCol ds m))) ∧ Below w.heap.size w w' := by
  obtain ⟨i0, hi0, hz0, hz1, hz2⟩ := info_parts info5
  obtain ⟨A, c, vs, rfl, hl1, hl2, hA, hvl, hD⟩ := h
  have hl : ds.length ≤ 9223372036854775807 := by unfold maxLen at hl2; omega
  have HA := hid hA
  have HD := hid hD
  have HV := hid hvl
  have HR0 := hid hr
  clear hA hD hvl hr
  go_enter Try.func46, Try.ntmps46
  go_wp2_with fail
  go_loopw [5, 12] (fun s5 i wr => ∃ k : Nat, k ≤ ds.length ∧ i = .int .i64 k ∧ wr.ownsRow w.heap.size 5 1 s5 (dsCol (ds.take k) m).length ((dsCol (ds.take k) m).map (.int .u8)) ∧ Below w.heap.size w wr) (fun _ i _ => ds.length - (intOf i).toNat)
  case atStart => exact ⟨0, by omega, rfl, World.ownsRow_nil _ _ _ _, Below.refl _ _⟩
  case round =>
    obtain ⟨k, hk, rfl, hown, hbw⟩ := hrel
    by_cases hlt : k < ds.length
    · obtain ⟨d, hd⟩ : ∃ d, ds[k]? = some d := ⟨_, List.getElem?_eq_getElem hlt⟩
      obtain ⟨b, o, nv, tv, rfl, _, hb, hc1, hc2, hn, htl⟩ := ds_at HA.out HD.out hd
      have HDK := hid hd
      obtain ⟨NA, nc, us, rfl, hnl, hNA, hNR⟩ := hn.open
      obtain ⟨TA, tc, rfl⟩ := htl.form
      have hc1w : wr.cell? ⟨b, o + k * 2, none⟩ = some (.slice NA d.next.length nc) := (hbw.cell (p := ⟨b, o + k * 2, none⟩) hb).trans hc1
      have hc2w : wr.cell? ⟨b, o + k * 2 + 1, none⟩ = some (.slice TA d.tells.length tc) := (hbw.cell (p := ⟨b, o + k * 2 + 1, none⟩) hb).trans hc2
      have H1 := hid hown
      have HN := hid hNA
      have HR := hid hNR
      clear hown hNA hNR hn htl hc1 hc2 hd
      go_wp2_with fail
      obtain ⟨wo, rfl⟩ : ∃ wo : World, wo = wr := ⟨_, rfl⟩
      go_loopw [5, 19] (fun s5 i wx => ∃ j : Nat, j ≤ d.next.length ∧ i = .int .i64 j ∧ wx.ownsRow w.heap.size 5 1 s5 (dsCol (ds.take k) m ++ rowsCol (d.next.take j) m).length ((dsCol (ds.take k) m ++ rowsCol (d.next.take j) m).map (.int .u8)) ∧ Below w.heap.size w wx) (fun _ i _ => d.next.length - (intOf i).toNat)
      case atStart =>
        refine ⟨0, by omega, rfl, ?_, hbw.alloc hbw.size _⟩
        have := H1.out.alloc (Obj.cells #[Value.slice NA d.next.length nc, Value.slice TA d.tells.length tc] 30)
        simpa [rowsCol] using this
      case round =>
        clear hc1w hc2w H1 hbw
        obtain ⟨j, hj, rfl, hown, hbw⟩ := hrel
        by_cases hjt : j < d.next.length
        · obtain ⟨b1, o1, A1, c1, rfl, _, hb1, hc1, hl1, hl2, hl3, hN1⟩ := HR.out.at HN.out hjt
          obtain ⟨hm1, hm2, hm3⟩ := HR0.out d (List.mem_of_getElem? HDK.out) _ (row_mem hjt)
          obtain ⟨b2, o2, rfl, _, hb2, hc2⟩ := hN1.num hm1
          have hc1w : wr.cell? ⟨b1, o1 + j, none⟩ = some (.slice (some ⟨b2, o2, none⟩) (row d.next j).length c1) := (hbw.cell (p := ⟨b1, o1 + j, none⟩) hb1).trans hc1
          have hc2w : wr.cell? ⟨b2, o2 + m, none⟩ = some (.int .i64 (nth (row d.next j) m)) := (hbw.cell (p := ⟨b2, o2 + m, none⟩) hb2).trans hc2
          have H1 := hid hown
          clear hown hc1 hc2 hN1
          have hm4 : (m : Int) < ((row d.next j).length : Int) := by omega
          have hLb := len_part ds m HDK.out j hj
          have hLc : (dsCol (ds.take k) m ++ rowsCol (d.next.take j) m).length + 2 ≤ 9223372036854775807 := by omega
          have hwz : w.heap.size ≤ wr.heap.size := hbw.size
          have hnb : u5.ownBlock ≠ some b2 := fun e => by have := (H1.out.lt _ e).1; omega
          go_wp2_with fail
          go_region_held3 (fun w' => w'.cell? ⟨b2, o2 + m, none⟩ = some (.int .i64 (nth (row d.next j) m)))
            (first
              | go_keep
              | (rw [hgrow1.cell_far _ (by simp; omega) (Ne.symm hnb)]; assumption))
            ((refine step_app _ (by rfl) _ _ 93 (by rfl) w.heap.size 5 i0 _ 1 1 Try.underlying93 hi0 hz0 hz1 hz2 rfl (by decide) u5 _ _ (by rfl) ((H1.out.alloc _).drew) (some ⟨wr.heap.size, 0, none⟩) 2 2 _ (by rfl) (src_new wr _ 5 2 rfl) (by simp [Value.oneCell']) (by simp only [maxLen]; omega) (by omega) (by simp; omega) ?_; intro v' w1 hown1 hgrow1 hat1))
          go_wp2
          go_roundw
          case rel =>
            refine ⟨j + 1, by omega, by go_num, ?_, below_own (hbw.alloc hwz _).drew (H1.out.alloc _).drew hgrow1 (by simp; omega)⟩
            have e1 : rowsCol (d.next.take (j + 1)) m = rowsCol (d.next.take j) m ++ two (nth (row d.next j) m) := by
              rw [take_row hjt]; simp [rowsCol]
            rw [e1, ← List.append_assoc, List.length_append, List.map_append]
            exact hown1
          case measure => simp [intOf]; omega
        · obtain rfl : j = d.next.length := by omega
          have H1 := hid hown
          clear hown
          go_wp2
          go_roundw
          case rel =>
            refine ⟨k + 1, by omega, by go_num, ?_, hbw⟩
            have e1 : dsCol (ds.take (k + 1)) m = dsCol (ds.take k) m ++ rowsCol (d.next.take d.next.length) m := by
              rw [List.take_add_one, HDK.out, List.take_length]; simp [dsCol]
            rw [e1]
            exact H1.out
          case measure => simp [intOf]; omega
    · obtain rfl : k = ds.length := by omega
      have hcv := run_conv_own (dst := 9) Try.underlying93 Try.underlying5 Try.underlying9 hown
      rw [List.take_length] at hcv
      clear hown
      go_wp2
      go_ret
      exact ⟨rfl, hbw⟩
end Go.Proofs.Ytmdkmobcglnmgaa
