/- Part of the proof. -/
import Derived.Test.YtpmkdihencepnaaGreatDoorMk18
import Derived.Test.YtpmkdihencepnaaGreatDoorMk21
import Derived.Test.YtpmkdihencepnaaGreatDoorMk23
set_option maxHeartbeats 16000000
namespace Go.Proofs.YtpmkdihencepnaaGreatDoor
section
def overB (p : List Int) (j : Nat) : Nat := p.countP (fun x => decide ((j : Int) < x))
def flipOf (p : List Int) : List Int := (List.range (p.getD 0 0).toNat).map (fun j => (overB p j : Int))
theorem flipOf_length (p : List Int) : (flipOf p).length = (p.getD 0 0).toNat := by simp [flipOf]
theorem IsPart.nonneg {p : List Int} (h : IsPart p) (i : Nat) : 0 ≤ p.getD i 0 := by
 by_cases e : i < p.length
 · have := h.1 i e; omega
 · rw [getD_out (by omega)]; exact Int.le_refl _
theorem IsPart.anti {p : List Int} (h : IsPart p) {i j : Nat} (hij : i ≤ j) : p.getD j 0 ≤ p.getD i 0 := by
 by_cases e : j < p.length
 · exact h.mono j e i hij
 · rw [getD_out (by omega)]; exact h.nonneg i
theorem over_lt : ∀ {p : List Int}, IsPart p → ∀ i j : Nat, (j : Int) < p.getD i 0 ↔ i < overB p j
 | [], _, i, j => by simp [overB]
 | x :: p, h, i, j => by
  have hp : IsPart p := ⟨fun i hi => by have := h.1 (i + 1) (by simpa using hi); simpa using this, fun i hi h1 => by
   have := h.2 (i + 1) (by simpa using hi) (by omega)
   simp only [List.getD_cons_succ, Nat.add_sub_cancel] at this
   obtain ⟨k, rfl⟩ : ∃ k, i = k + 1 := ⟨i - 1, by omega⟩
   simpa using this⟩
  have ih := over_lt hp
  have hx : ∀ i, p.getD i 0 ≤ x := fun i => by have := h.anti (i := 0) (j := i + 1) (by omega); simpa using this
  have ho : overB (x :: p) j = overB p j + if (j : Int) < x then 1 else 0 := by simp [overB, List.countP_cons]
  rw [ho]
  by_cases hj : (j : Int) < x
  · rw [if_pos hj]
    cases i with
    | zero => simp only [List.getD_cons_zero]; exact ⟨fun _ => by omega, fun _ => hj⟩
    | succ i => simp only [List.getD_cons_succ]; rw [ih i j]; omega
  · rw [if_neg hj]
    have h0 : overB p j = 0 := by
     have := (ih 0 j)
     by_cases e : 0 < overB p j
     · have := this.2 e; have := hx 0; omega
     · omega
    rw [h0]
    cases i with
    | zero => simp only [List.getD_cons_zero]; omega
    | succ i => simp only [List.getD_cons_succ]; have := hx i; omega
theorem over_zero_of {p : List Int} (h : IsPart p) {j : Nat} (hj : (p.getD 0 0).toNat ≤ j) : overB p j = 0 := by
 by_cases e : 0 < overB p j
 · have := (over_lt h 0 j).2 e; omega
 · omega
theorem flip_getD {p : List Int} (h : IsPart p) (j : Nat) : (flipOf p).getD j 0 = overB p j := by
 by_cases e : j < (p.getD 0 0).toNat
 · rw [getD_get (by rw [flipOf_length]; exact e)]; simp [flipOf]
 · rw [getD_out (by rw [flipOf_length]; omega), over_zero_of h (by omega)]; rfl
theorem galois {p : List Int} (h : IsPart p) (i j : Nat) : (j : Int) < p.getD i 0 ↔ (i : Int) < (flipOf p).getD j 0 := by
 rw [flip_getD h, over_lt h]; omega
theorem over_le (p : List Int) (j : Nat) : overB p j ≤ p.length := List.countP_le_length
theorem flip_part {p : List Int} (h : IsPart p) : IsPart (flipOf p) := by
 refine ⟨fun i hi => ?_, fun i hi h1 => ?_⟩
 · rw [flipOf_length] at hi
   have := (galois h 0 i).1 (by omega)
   omega
 · rw [flip_getD h, flip_getD h]
   have : overB p i ≤ overB p (i - 1) := by
    unfold overB
    exact List.countP_mono_left (fun x _ hx => by simp only [decide_eq_true_eq] at hx ⊢; omega)
   omega
def pre (p : List Int) (k : Nat) : Int := psum (fun i => p.getD i 0) k
theorem pre_succ (p : List Int) (k : Nat) : pre p (k + 1) = pre p k + p.getD k 0 := rfl
theorem pre_take (p : List Int) : ∀ k, pre p k = (p.take k).sum
 | 0 => by simp [pre, psum]
 | k + 1 => by
  rw [pre_succ, pre_take p k]
  by_cases e : k < p.length
  · rw [take_snoc e, List.sum_append, getD_get e]; simp
  · rw [getD_out (by omega), List.take_of_length_le (by omega), List.take_of_length_le (by omega)]; simp
theorem pre_all {p : List Int} {k : Nat} (h : p.length ≤ k) : pre p k = p.sum := by rw [pre_take, List.take_of_length_le h]
theorem over_min : ∀ (p : List Int), (∀ x ∈ p, 0 ≤ x) → ∀ j : Nat, (overB p j : Int) = (p.map (fun x => min ((j : Int) + 1) x)).sum - (p.map (fun x => min (j : Int) x)).sum
 | [], _, j => by simp [overB]
 | x :: p, h, j => by
  have ih := over_min p (fun y hy => h y (List.mem_cons_of_mem _ hy)) j
  have hx := h x (by simp)
  have ho : overB (x :: p) j = overB p j + if (j : Int) < x then 1 else 0 := by simp [overB, List.countP_cons]
  rw [ho]
  simp only [List.map_cons, List.sum_cons]
  split <;> omega
theorem sum_zeros (p : List Int) : (p.map (fun _ => (0 : Int))).sum = 0 := by
 induction p with
 | nil => rfl
 | cons x p ih => simp only [List.map_cons, List.sum_cons, ih]; rfl
theorem flip_pre {p : List Int} (h : IsPart p) : ∀ j : Nat, pre (flipOf p) j = (p.map (fun x => min (j : Int) x)).sum
 | 0 => by
  have : (p.map (fun x => min ((0 : Nat) : Int) x)).sum = 0 := by
   have e : p.map (fun x => min ((0 : Nat) : Int) x) = p.map (fun _ => 0) := List.map_congr_left (fun x hx => by have := h.mem x hx; omega)
   rw [e]
   exact sum_zeros p
  rw [this]; rfl
 | j + 1 => by
  rw [pre_succ, flip_pre h j, flip_getD h, over_min p (fun x hx => by have := h.mem x hx; omega) j]
  have : ((j + 1 : Nat) : Int) = (j : Int) + 1 := by omega
  rw [this]
  omega
theorem min_all : ∀ {p : List Int} {m : Int}, (∀ x ∈ p, x ≤ m) → (p.map (fun x => min m x)).sum = p.sum
 | [], _, _ => rfl
 | x :: p, m, h => by
  have h1 := h x (by simp)
  simp only [List.map_cons, List.sum_cons, min_all (fun y hy => h y (List.mem_cons_of_mem _ hy))]
  omega
theorem IsPart.le_head {p : List Int} (h : IsPart p) : ∀ x ∈ p, x ≤ p.getD 0 0 := fun x hx => by
 obtain ⟨i, hi, rfl⟩ := List.getElem_of_mem hx
 have := h.anti (i := 0) (j := i) (by omega)
 rwa [getD_get hi] at this
theorem flip_sum {p : List Int} (h : IsPart p) : (flipOf p).sum = p.sum := by
 have h1 := h.nonneg 0
 rw [← pre_all (p := flipOf p) (k := (p.getD 0 0).toNat) (by rw [flipOf_length]; exact Nat.le_refl _), flip_pre h]
 exact min_all (fun x hx => by have := h.le_head x hx; omega)
end
section
open Go.RowKit
instance (p : List Int) (k : Nat) : Decidable (CaseA p k) := by unfold CaseA; infer_instance
instance (p : List Int) (k : Nat) : Decidable (CaseB p k) := by unfold CaseB; infer_instance
theorem mem_le_sum : ∀ {p : List Int}, (∀ x ∈ p, 1 ≤ x) → ∀ x ∈ p, x ≤ p.sum
 | y :: p, h, x, hx => by
  have h1 := sum_nonneg (xs := p) (fun z hz => h z (List.mem_cons_of_mem _ hz))
  have h2 := h y (by simp)
  rw [List.sum_cons]
  rcases List.mem_cons.1 hx with rfl | hx
  · omega
  · have := mem_le_sum (fun z hz => h z (List.mem_cons_of_mem _ hz)) x hx; omega
theorem part_le_sum {p : List Int} (h : IsPart p) {i : Nat} (hi : i < p.length) : p.getD i 0 ≤ p.sum :=
 mem_le_sum h.mem _ (by rw [getD_get hi]; exact List.getElem_mem hi)
theorem flip_snoc (p : List Int) (j : Nat) : (List.range j).map (fun j => (overB p j : Int)) ++ [(overB p j : Int)] = (List.range (j + 1)).map (fun j => (overB p j : Int)) := by
 simp [List.range_succ]
theorem flipped_any (A : Option Addr) (cap : Nat) (p : List Int) (w : World) (hp : IsPart p) (hs : p.sum ≤ 40) (h : Sl w w.heap.size A (ints p)) :
 Calls Tryz.prog 125 #[.slice A p.length cap] w fun e w' => ∃ v, e = .returned v ∧ w'.ownsRow w.heap.size 3 1 v (flipOf p).length (ints (flipOf p)) ∧ Below w.heap.size w w' := by
 have hB := Nat.le_refl w.heap.size
 have hlen := hp.len hs
 have hfl : Hid ((flipOf p).length = (p.getD 0 0).toNat) := flipOf_length p
 have hh0 := hp.nonneg 0
 have hh : p.getD 0 0 ≤ 40 := by
  by_cases c : 0 < p.length
  · have := part_le_sum hp c; omega
  · rw [getD_out (by omega)]; omega
 obtain ⟨m, hm⟩ : ∃ m : Nat, p.getD 0 0 = m := ⟨(p.getD 0 0).toNat, by omega⟩
 have hmm : m ≤ 40 := by omega
 have HM := Lib.hid hm
 have HP := Lib.hid hp
 have HF : Hid (flipOf p = (List.range m).map (fun j => (overB p j : Int))) := by show _ = _; unfold flipOf; rw [hm]; rfl
 have HZ : Hid (p.length = 0 → m = 0) := fun h0 => by rw [getD_out (by omega)] at hm; omega
 clear hp hs hh0 hh hm
 go_enter Tryz.func125, Tryz.ntmps125
 go_wp2
 go_loopw [3, 4] (fun ov jv wr => ∃ j : Nat, j ≤ m ∧ jv = .int .i64 j ∧ wr.ownsRow w.heap.size 3 1 ov j (ints ((List.range j).map (fun j => (overB p j : Int)))) ∧ Below w.heap.size w wr) (fun _ jv _ => m - (intOf jv).toNat)
 case atStart => exact ⟨0, by omega, rfl, World.ownsRow_nil _ _ _ _, Below.refl _ _⟩
 case round =>
  obtain ⟨j, hj, rfl, hown, hW⟩ := hrel
  have HO := Lib.hid hown
  clear hown
  have hsn := flip_snoc p j
  by_cases hn : 0 < p.length
  · have hd0 : decide (0 < p.length) = true := decide_eq_true hn
    obtain ⟨b, o, rfl, hb⟩ := h.addr hn
    have hr := h.below hW
    have hcx := getD_cell hr hn
    rw [HM.out, Nat.add_zero] at hcx
    by_cases hlt : j < m
    · have hd1 : decide (j < m) = true := decide_eq_true hlt
      have hol := over_le p j
      obtain ⟨t, ht⟩ : ∃ t, t = overB p j := ⟨_, rfl⟩
      have HV : Hid (∀ i : Nat, (j : Int) < p.getD i 0 ↔ i < t) := by rw [ht]; exact fun i => over_lt HP.out i j
      rw [← ht] at hol hsn
      have HT := Lib.hid ht
      have HSN := Lib.hid hsn
      clear ht hsn
      go_wp2
      go_loop [5] (fun nv => ∃ n : Nat, n ≤ t ∧ nv = .int .i64 n) (fun nv => t - (intOf nv).toNat)
      case atStart => exact ⟨0, by omega, rfl⟩
      case round =>
       obtain ⟨n, hn2, rfl⟩ := hrel
       by_cases hnl : n < p.length
       · have hd2 : decide (n < p.length) = true := decide_eq_true hnl
         have hcy := getD_cell hr hnl
         have hv := HV.out n
         obtain ⟨x, hx⟩ : ∃ x, x = p.getD n 0 := ⟨_, rfl⟩
         rw [← hx] at hcy hv
         clear hx
         by_cases hxj : (j : Int) < x
         · have hd3 : decide ((j : Int) < x) = true := decide_eq_true hxj
           have hnt := hv.1 hxj
           clear hv hxj
           go_wp2
           go_round
           case rel => exact ⟨n + 1, by omega, by go_num⟩
           case measure => simp [intOf]; omega
         · have hd3 : decide ((j : Int) < x) = false := decide_eq_false hxj
           have hnt : Hid (n = t) := by show _ = _; have := mt hv.2 hxj; omega
           clear hv hxj
           go_wp2_with (first | (at_builtin; refine wpList_app1 rfl (.tmp 32) (.tmp 34) rfl rfl (n : Int) HO.out rfl (by omega) hW.size (fun g2 c2 w5 hl5 hb5 => ?_)) | fail)
           go_wp2
           go_roundw
           case rel =>
            refine ⟨j + 1, by omega, by go_num, ?_, hW.trans hb5⟩
            rw [← HSN.out, ← hnt.out]; exact hl5
           case measure => simp [intOf]; omega
       · have hd2 : decide (n < p.length) = false := decide_eq_false hnl
         have hnt : Hid (n = t) := by show _ = _; omega
         go_wp2_with (first | (at_builtin; refine wpList_app1 rfl (.tmp 32) (.tmp 34) rfl rfl (n : Int) HO.out rfl (by omega) hW.size (fun g2 c2 w5 hl5 hb5 => ?_)) | fail)
         go_wp2
         go_roundw
         case rel =>
          refine ⟨j + 1, by omega, by go_num, ?_, hW.trans hb5⟩
          rw [← HSN.out, ← hnt.out]; exact hl5
         case measure => simp [intOf]; omega
    · have hd1 : decide (j < m) = false := decide_eq_false hlt
      have hjm : Hid (j = m) := by show _ = _; omega
      clear hsn
      go_wp2
      go_ret
      exact ⟨_, rfl, by rw [hfl.out, HM.out, HF.out, Int.toNat_natCast, ← hjm.out]; exact HO.out, hW⟩
  · have hd0 : decide (0 < p.length) = false := decide_eq_false hn
    have hjm : Hid (j = m) := by show _ = _; have := HZ.out (by omega); omega
    clear hsn
    go_wp2
    go_ret
    exact ⟨_, rfl, by rw [hfl.out, HM.out, HF.out, Int.toNat_natCast, ← hjm.out]; exact HO.out, hW⟩
end
end Go.Proofs.YtpmkdihencepnaaGreatDoor
