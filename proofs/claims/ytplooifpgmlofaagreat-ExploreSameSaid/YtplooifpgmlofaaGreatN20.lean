/- Play and Normal of the reference. No condition. -/
import Derived.Test.YtplooifpgmlofaaGreatN15
import Derived.Test.YtplooifpgmlofaaGreatN8
namespace Go.Proofs.YtplooifpgmlofaaGreat
open Go.RowKit

inductive RPlayI {Y : Sys} (A : RPlr Y) (p : List Int) : Nat → Sta → Prop
  | mk (k : Nat) (hk : k ≤ p.length) (hl : legal Y (p.take k)) : RPlayI A p (p.length - k) ⟨40, [(7, .i k), (0, .ptr 1000000 0), (1, .d (intD p))], [(1000000, .sys (A.at_ (some (p.take k))))]⟩
set_option maxHeartbeats 1000000 in
theorem refPlay_m {Y : Sys} (hY : Fair Y) (A : RPlr Y) (q : Option (List Int)) (hq : ∀ p, q = some p → legal Y p) (p : List Int) :
    Meets Tryz.prog 27 [.ptr 1000000 0, .d (intD p)] [.sys (A.at_ q)] (PlayR A.toPlr q p) := by
  refine meetsP [] tbSOk mixed Tryz.func27 pl27 rfl rfl ?_
  by_cases h60 : (60 : Int) < p.length
  · simp [Tryz.ntmps27, h60]
    refine vcRet_of [] ?_ (.long (by omega))
    simp
  · simp [Tryz.ntmps27, h60]
    refine (A.start q hq).mono ?_
    rintro _ rfl
    simp
    refine vc_loop (RPlayI A p) ⟨_, _, .mk 0 (Nat.zero_le _) (legal_nil Y), [], _, rfl, by simp⟩ ?_
    rintro n σ ⟨k, hk, hl⟩
    by_cases hlt : k < p.length
    · obtain ⟨t, ht, e⟩ := at_lt hlt
      have hfew := hY.few (p.take k)
      by_cases hm : t ∈ Y.en (p.take k)
      · simp [hlt]
        refine effCall (A.enabled _ hl) ?_
        simp [hlt, e]
        refine effCall (in_m (Y.en (p.take k)) t (by omega)) ?_
        simp [hm, hlt, e]
        refine ⟨by kernel_rfl, ?_⟩
        refine (A.step _ t hl hm (by rw [List.length_take]; omega)).mono ?_
        rintro _ rfl
        simp [wrap_succ hlt (show p.length < 4294967296 by omega)]
        refine ⟨p.length - (k + 1), by omega, _, .mk (k + 1) hlt (legal_step hl (by omega) ht hm), [], _, rfl, ?_⟩
        rw [take_step ht]
        simp
      · simp [hlt]
        refine effCall (A.enabled _ hl) ?_
        simp [hlt, e]
        refine effCall (in_m (Y.en (p.take k)) t (by omega)) ?_
        simp [hm]
        refine ⟨by kernel_rfl, ?_⟩
        refine (A.outcome _ hl).mono ?_
        rintro _ rfl
        simp
        refine vcRet_of [] ?_ (.bad (by omega) k t ht hl hm)
        simp
    · obtain rfl : k = p.length := by omega
      have hl' : legal Y p := by rwa [List.take_length] at hl
      simp
      refine (A.outcome _ hl').mono ?_
      rintro _ rfl
      simp
      refine vcRet_of [] ?_ (.all hl')
      simp
@[simp] def rowQ (l : List Stp) : MObj := .row 94 2 (l.map Stp.ds) false
inductive RNormI {Y : Sys} (A : RPlr Y) (p : List Int) : Nat → Sta → Prop
  | mk (k : Nat) (hk : k ≤ p.length) : RNormI A p (p.length - k) ⟨135, [(10, .i k), (9, .rw 9 k), (0, .ptr 1000000 0), (1, .d (intD p))], [(9, rowQ (stepsK Y p k)), (1000000, .sys (A.at_ (some (p.take k))))]⟩
inductive ROutN {Y : Sys} (A : RPlr Y) (p : List Int) (R : List Int) : Nat → Sta → Prop
  | mk (l : List Stp) (out : List Int) (hl : l.length ≤ 60) (hu : ∀ x ∈ l, x.uses.length < 1000) (ho : out.length + l.length ≤ 60) (hR : out ++ normX l.length l = R) :
    ROutN A p R l.length ⟨135, [(11, .rw 11 out.length), (9, .d (stD l)), (0, .ptr 1000000 0)], [(11, rowO out), (1000000, .sys (A.at_ (some p)))]⟩
inductive RBestI {Y : Sys} (A : RPlr Y) (p : List Int) (l : List Stp) (out : List Int) : Nat → Sta → Prop
  | mk (k : Nat) (hk : k ≤ l.length) :
    RBestI A p l out (l.length - k) ⟨135, [(13, .i k), (12, .i (bestTo l k)), (11, .rw 11 out.length), (9, .d (stD l)), (0, .ptr 1000000 0)], [(11, rowO out), (1000000, .sys (A.at_ (some p)))]⟩
inductive RHeldI {Y : Sys} (A : RPlr Y) (p : List Int) (l : List Stp) (out : List Int) (k : Nat) (s : Stp) : Nat → Sta → Prop
  | mk (j : Nat) (hj : j ≤ k) :
    RHeldI A p l out k s (k - j) ⟨135, [(15, .i j), (14, .b (!heldBy (l.take j) s)), (13, .i k), (12, .i (bestTo l k)), (11, .rw 11 out.length), (9, .d (stD l)), (0, .ptr 1000000 0)], [(11, rowO out), (1000000, .sys (A.at_ (some p)))]⟩
theorem held_succ {l : List Stp} {j : Nat} {x s : Stp} (h : l[j]? = some x) : heldBy (l.take (j + 1)) s = (heldBy (l.take j) s || (x.task == s.task || !indy x.uses s.uses)) := by
  unfold heldBy
  rw [List.take_add_one, h, List.any_append]
  simp
set_option maxRecDepth 20000 in
set_option maxHeartbeats 8000000 in
theorem refNormal_m {Y : Sys} (hY : Fair Y) (A : RPlr Y) (q : Option (List Int)) (hq : ∀ p, q = some p → legal Y p) (p : List Int) :
    Meets Tryz.prog 11 [.ptr 1000000 0, .d (intD p)] [.sys (A.at_ q)] (NormR A.toPlr q p) := by
  refine meetsP [] tbNOk mixed Tryz.func11 pl11 rfl rfl ?_
  simp [Tryz.ntmps11]
  refine (refPlay_m hY A q hq p).mono ?_
  rintro _ (⟨h⟩ | ⟨hp⟩ | ⟨h60, k, t, ht, hl, hn⟩)
  · simp
    refine vcRet_of [] ?_ (.long h)
    simp
  case bad =>
    simp
    refine vcRet_of [] ?_ (.bad h60 k t ht hl hn)
    simp
  have h60 := hp.1
  simp
  refine (A.start (some p) (fun _ h => by cases h; exact hp)).mono ?_
  rintro _ rfl
  simp
  refine vc_loop (RNormI A p) ⟨_, _, .mk 0 (Nat.zero_le _), [.row 9 94 2], _, rfl, by simp [stepsK]⟩ ?_
  rintro n σ ⟨k, hk⟩
  have hl := legal_take hp k
  by_cases hlt : k < p.length
  · obtain ⟨t, ht, e⟩ := at_lt hlt
    have hm : t ∈ Y.en (p.take k) := legal_at hp ht
    have hus := hY.uses (p.take k) t
    have hsl := stepsK_len (Y := Y) (p := p) (k := k)
    simp [hlt, e]
    refine effCall (A.uses _ t hl hm) ?_
    simp [hsl, hlt, e]
    repeat (first | refine And.intro (by omega) ?_ | refine And.intro (by kernel_rfl) ?_)
    refine (A.step _ t hl hm (by rw [List.length_take]; omega)).mono ?_
    rintro _ rfl
    simp [wrap_succ hlt (show p.length < 4294967296 by omega)]
    refine ⟨p.length - (k + 1), by omega, _, .mk (k + 1) hlt, [], _, rfl, ?_⟩
    rw [take_step ht, stepsK_succ ht]
    simp
  · obtain rfl : k = p.length := by omega
    simp
    refine vc_loop (ROutN A p (normal Y p)) ⟨_, _, .mk (stepsK Y p p.length) [] (by rw [stepsK_len]; omega) (stepsK_uses hY) (by rw [stepsK_len]; simp; omega) (by simp [normal, stepsK_len]), [.row 11 3 1, .view 9], _, (by simp [Prep.all, Prep.run, stepsK_len]; rfl), by simp [stepsK_len, List.take_of_length_le]⟩ ?_
    rintro n σ ⟨l, out, hl60, hu, ho, hR⟩
    by_cases h0 : l = []
    · subst h0
      simp
      refine vcRet_of [] ?_ (.all hp)
      simp [← hR, normX]
      rw [List.take_of_length_le (by simp)]
    · have hpos : 0 < l.length := List.length_pos_iff.2 h0
      obtain ⟨m, hm⟩ : ∃ m, l.length = m + 1 := ⟨l.length - 1, by omega⟩
      simp [hpos]
      refine vc_loop (RBestI A p l out) ⟨_, _, .mk 0 (Nat.zero_le _), [], _, rfl, by simp [bestTo]⟩ ?_
      rintro n σ ⟨k, hk⟩
      have hb := bestTo_lt l k
      by_cases hlt : k < l.length
      · obtain ⟨s, hs, e⟩ := at_lt hlt
        have hsu := hu s (List.mem_of_getElem? hs)
        have hbs : bestTo l (k + 1) = if 0 ≤ bestTo l k ∧ taskAt l (bestTo l k) ≤ s.task then bestTo l k else if heldBy (l.take k) s = true then bestTo l k else k := by
          rw [bestTo, hs]
        simp [hlt]
        refine vc_loop (RHeldI A p l out k s) ⟨_, _, .mk 0 (Nat.zero_le _), [], _, rfl, by simp [heldBy]⟩ ?_
        rintro n σ ⟨j, hj⟩
        by_cases hjk : j < k
        · obtain ⟨x, hx, e2⟩ := at_lt (show j < l.length by omega)
          have hjl : j < l.length := by omega
          have hhs := held_succ (s := s) hx
          have hxu := hu x (List.mem_of_getElem? hx)
          cases hh : heldBy (l.take j) s
          · rw [hh] at hhs
            by_cases htk : x.task = s.task
            · simp [hjk, hjl, hlt, e, e2, htk]
              refine ⟨by kernel_rfl, ?_⟩
              simp [wrap_succ hjk (show k < 4294967296 by omega)]
              exact ⟨k - (j + 1), by omega, _, .mk (j + 1) hjk, [], _, rfl, by simp [hhs, htk]⟩
            · simp [hjk, hjl, hlt, e, e2, htk]
              refine effCall (refIndep_m x.uses s.uses (by omega) (by omega)) ?_
              simp
              refine ⟨by kernel_rfl, ?_⟩
              simp [wrap_succ hjk (show k < 4294967296 by omega)]
              exact ⟨k - (j + 1), by omega, _, .mk (j + 1) hjk, [], _, rfl, by simp [hhs, htk]⟩
          · rw [hh] at hhs
            simp [hjk]
            refine ⟨by kernel_rfl, ?_⟩
            simp [wrap_succ hjk (show k < 4294967296 by omega)]
            exact ⟨k - (j + 1), by omega, _, .mk (j + 1) hjk, [], _, rfl, by simp [hhs]⟩
        · obtain rfl : j = k := by omega
          cases hh : heldBy (l.take j) s
          · by_cases hb0 : 0 ≤ bestTo l j
            · obtain ⟨b, hbn⟩ : ∃ b : Nat, bestTo l j = b := ⟨(bestTo l j).toNat, by omega⟩
              rw [hbn] at hb hbs ⊢
              have hbl : b < l.length := by omega
              obtain ⟨x, hx, e2⟩ := at_lt hbl
              have hta : taskAt l b = x.task := by simp [taskAt, hx]
              rw [hta] at hbs
              have hbn0 : ¬ (b : Int) < 0 := by omega
              by_cases hge : s.task < x.task
              · rw [if_neg (fun h => absurd h.2 (by omega)), if_neg (by rw [hh]; exact Bool.false_ne_true)] at hbs
                simp [hlt, e, hbl, e2, hge, hbn0]
                refine ⟨by kernel_rfl, ?_⟩
                simp [wrap_succ hlt (show l.length < 4294967296 by omega)]
                exact ⟨l.length - (j + 1), by omega, _, .mk (j + 1) hlt, [], _, rfl, by simp [hbs]⟩
              · rw [if_pos ⟨by omega, by omega⟩] at hbs
                simp [hlt, e, hbl, e2, hge, hbn0]
                refine ⟨by kernel_rfl, ?_⟩
                simp [wrap_succ hlt (show l.length < 4294967296 by omega)]
                exact ⟨l.length - (j + 1), by omega, _, .mk (j + 1) hlt, [], _, rfl, by simp [hbs]⟩
            · have hb1 : bestTo l j = -1 := by omega
              rw [hb1] at hb hbs ⊢
              rw [if_neg (by omega), if_neg (by rw [hh]; exact Bool.false_ne_true)] at hbs
              simp
              refine ⟨by kernel_rfl, ?_⟩
              simp [wrap_succ hlt (show l.length < 4294967296 by omega)]
              exact ⟨l.length - (j + 1), by omega, _, .mk (j + 1) hlt, [], _, rfl, by simp [hbs]⟩
          · have hbs' : bestTo l (j + 1) = bestTo l j := by
              rw [hbs, if_pos hh]
              split <;> rfl
            simp
            refine ⟨by kernel_rfl, ?_⟩
            simp [wrap_succ hlt (show l.length < 4294967296 by omega)]
            exact ⟨l.length - (j + 1), by omega, _, .mk (j + 1) hlt, [], _, rfl, by simp [hbs']⟩
      · obtain rfl : k = l.length := by omega
        have hbp := bestTo_pos l l.length hpos (Nat.le_refl _)
        obtain ⟨b, hbn⟩ : ∃ b : Nat, bestTo l l.length = b := ⟨(bestTo l l.length).toNat, by omega⟩
        rw [hbn] at hb ⊢
        have hbl : b < l.length := by omega
        obtain ⟨x, hx, e2⟩ := at_lt hbl
        have hta : taskAt l b = x.task := by simp [taskAt, hx]
        have hw1 : IntKind.i64.wrap ((b : Int) + 1) = b + 1 := wrap_in (by omega)
        have hm1 : min b l.length = b := by omega
        have hble : b ≤ l.length := by omega
        have hb1le : b + 1 ≤ l.length := by omega
        rw [hm, normX, if_neg h0, hbn, hta, Int.toNat_natCast] at hR
        have hlen : (l.eraseIdx b).length = m := by rw [List.length_eraseIdx_of_lt hbl]; omega
        have her : l.eraseIdx b = l.take b ++ l.drop (b + 1) := List.eraseIdx_eq_take_drop_succ ..
        simp [hbl, e2, hw1, hm1, hble]
        repeat (first | refine And.intro (by omega) ?_ | refine And.intro (by kernel_rfl) ?_)
        refine ⟨_, ?_, _, .mk (l.eraseIdx b) (out ++ [x.task]) (by omega) (fun y hy => hu y (List.mem_of_mem_eraseIdx hy)) (by simp; omega) (by rw [List.append_assoc, hlen]; exact hR), [], _, rfl, ?_⟩
        · rw [hlen]; omega
        · simp [her, List.take_of_length_le]
def pickTo (Y : Sys) (by_ : List Int) : Nat → List Int
  | 0 => []
  | k + 1 => match (Y.en (pickTo Y by_ k))[(by_.getD k 0 % (Y.en (pickTo Y by_ k)).length).toNat]? with
    | some t => pickTo Y by_ k ++ [t]
    | none => pickTo Y by_ k
def pickX (Y : Sys) (by_ : List Int) : List Int := pickTo Y by_ (min by_.length 60)
@[simp] def byC (n : Int) : List D := [.v (.int .u8 n)]
@[simp] def byD (l : List Int) : D := .sl 1 (l.map byC)
inductive PickI (x : Sx) (h : XOk x) (by_ : List Int) : Nat → Sta → Prop
  | mk (k : Nat) (hk : k ≤ by_.length) (h60 : k ≤ 60) (hl : (pickTo (sysX x) by_ k).length = k) :
    PickI x h by_ (by_.length - k) ⟨50, [(7, .i k), (6, .rw 6 k), (5, .ptr 12 0), (1, .d (byD by_))], [(6, rowO (pickTo (sysX x) by_ k)), (12, .sys ((refQ x h).at_ (some (pickTo (sysX x) by_ k))))]⟩
end Go.Proofs.YtplooifpgmlofaaGreat
namespace Go.Proofs.YtplooifpgmlofaaGreat
open Go.RowKit
open Lo (Sy Lk Qu chk Fits Wide)

theorem getD_at {l : List Int} {k : Nat} {t : Int} (h : l[k]? = some t) : l.getD k 0 = t := by rw [List.getD_eq_getElem?_getD, h]; rfl
def stopAt (Y : Sys) (p : List Int) : Option Nat := (List.range p.length).find? fun k => decide (p.getD k 0 ∉ Y.en (p.take k))
theorem stop_none {Y : Sys} {p : List Int} (h : legal Y p) : stopAt Y p = none := by
  unfold stopAt
  rw [List.find?_eq_none]
  intro k hk
  obtain ⟨t, ht, e⟩ := at_lt (List.mem_range.1 hk)
  have := legal_at h ht
  rw [getD_at ht]
  simp [this]
theorem stop_some {Y : Sys} {p : List Int} {k : Nat} {t : Int} (ht : p[k]? = some t) (hl : legal Y (p.take k)) (hn : t ∉ Y.en (p.take k)) : stopAt Y p = some k := by
  unfold stopAt
  rw [List.find?_range_eq_some]
  have hk := (List.getElem?_eq_some_iff.1 ht).1
  refine ⟨by rw [getD_at ht]; simp [hn], List.mem_range.2 hk, fun j hj => ?_⟩
  obtain ⟨u, hu, e⟩ := at_lt (show j < p.length by omega)
  have := legal_at hl (k := j) (t := u) (by rw [List.getElem?_take, if_pos hj]; exact hu)
  rw [List.take_take, Nat.min_eq_left (by omega)] at this
  rw [getD_at hu]
  simp [this]
def pO (Y : Sys) (p : List Int) : ByteArray := if 60 < p.length then ⟨#[]⟩ else match stopAt Y p with
  | none => Y.out p
  | some k => Y.out (p.take k)
def pK (Y : Sys) (p : List Int) : Int := if 60 < p.length then 0 else match stopAt Y p with
  | none => p.length
  | some k => k
def pE (Y : Sys) (p : List Int) : Int := if 60 < p.length then 3 else match stopAt Y p with
  | none => 0
  | some _ => 9
def pQ (Y : Sys) (q : Option (List Int)) (p : List Int) : Option (List Int) := if 60 < p.length then q else match stopAt Y p with
  | none => some p
  | some k => some (p.take k)
def nL (Y : Sys) (p : List Int) : D := if 60 < p.length then .v (.slice none 0 0) else match stopAt Y p with
  | none => intD (normal Y p)
  | some _ => .v (.slice none 0 0)
theorem normR_eq {Y : Sys} {A : Plr Y} {q : Option (List Int)} {p : List Int} {r : Res} (h : NormR A q p r) : r = ⟨.tup [.d (nL Y p), .i (pE Y p)], [.sys (A.at_ (pQ Y q p))], []⟩ := by
  unfold nL pE pQ
  rcases h with ⟨h⟩ | ⟨h⟩ | ⟨h60, k, t, ht, hl, hn⟩
  · simp [h]
  · have : ¬ 60 < p.length := by have := h.1; omega
    simp [this, stop_none h]
  · have : ¬ 60 < p.length := by omega
    simp [this, stop_some ht hl hn]
theorem legal_vals {Y : Sys} {p : List Int} (h : legal Y p) : pO Y p = Y.out p ∧ pK Y p = p.length ∧ pE Y p = 0 ∧ nL Y p = intD (normal Y p) := by
  have h6 : ¬ 60 < p.length := by have := h.1; omega
  unfold pO pK pE nL
  simp [h6, stop_none h]
theorem normX_len : ∀ (n : Nat) (l : List Stp), (normX n l).length ≤ n
  | 0, _ => Nat.le_refl _
  | n + 1, l => by
    unfold normX
    split
    · exact Nat.zero_le _
    · have := normX_len n (l.eraseIdx (bestTo l l.length).toNat)
      simp; omega
section
variable {x : Sx} (h : XOk x)
theorem normC (p : List Int) : Meets Tryz.prog 13 [.ifc 38 1000000, .d (intD p)] [plN x] (fun r => r = ⟨.tup [.d (nL (sysX x) p), .i (pE (sysX x) p)], [.sys ((refQ x h).at_ (pQ (sysX x) none p))], []⟩) :=
  hideN h ((normal_m (sys_fair h) (refQ x h).toPlr none (fun _ h => by cases h) p).mono fun _ h => normR_eq h)
theorem refNormC (p : List Int) : Meets Tryz.prog 11 [.ptr 1000000 0, .d (intD p)] [plN x] (fun r => r = ⟨.tup [.d (nL (sysX x) p), .i (pE (sysX x) p)], [.sys ((refQ x h).at_ (pQ (sysX x) none p))], []⟩) :=
  hideN h ((refNormal_m (sys_fair h) (refQ x h) none (fun _ h => by cases h) p).mono fun _ h => normR_eq h)
end
inductive NeiI (x : Sx) (l a : List Int) : Nat → Sta → Prop
  | mk (k : Nat) (h0 : 1 ≤ k) (hk : k ≤ l.length ∨ k = 1) : NeiI x l a (l.length - k) ⟨276, [(21, .i k), (17, .d (intD l)), (13, .d (intD a)), (3, .ptr 3 0)], [(3, .box 29 [.d (Lo.lks x.s.locks), .d (Lo.qus x.s.queues), .d (Lo.il x.s.groups), .d (prgsD x.ps)])]⟩
inductive GoI (x : Sx) (h : XOk x) (l a : List Int) (k : Nat) : Nat → Sta → Prop
  | mk (i : Nat) (hi : i ≤ k) : GoI x h l a k (k - i) ⟨276, [(23, .i i), (22, .ptr 189 0), (21, .i ((k : Int) + 1)), (17, .d (intD l)), (13, .d (intD a)), (3, .ptr 3 0)], [(3, .box 29 [.d (Lo.lks x.s.locks), .d (Lo.qus x.s.queues), .d (Lo.il x.s.groups), .d (prgsD x.ps)]), (189, .sys ((refQ x h).at_ (some (l.take i))))]⟩
end Go.Proofs.YtplooifpgmlofaaGreat
