/- Arguments opened: rows of elements, whatever the element; read by their cells. -/
import Derived.Test.YtgafefecookgaaaGreatGCore
import Derived.Deep.Slices
import Derived.Deep.Fields
import Derived.ChangeSame
import Derived.ProofKit
import Derived.SizedLaws
set_option linter.unusedVariables false
set_option linter.unusedSimpArgs false
set_option maxRecDepth 20000
set_option maxHeartbeats 16000000
namespace Go.Xr
open Go Go.RowKit Go.ChangeShapes Go.WideShapes Go.Deep
theorem flat_len {α : Type} (cells : α → List Value) (size : Nat) (h : ∀ a,(cells a).length = size) (l : List α) : (l.flatMap cells).length = l.length * size:=by
 induction l with
 | nil => simp
 | cons a l ih => rw [List.flatMap_cons,List.length_append,ih,h,List.length_cons,Nat.add_mul];omega
theorem flat_get {α : Type} (cells : α → List Value) (size : Nat) (h : ∀ a,(cells a).length = size) : ∀ (l : List α) (i j : Nat) (hi : i < l.length),j < size → (l.flatMap cells)[i * size + j]? = (cells l[i])[j]?
 | [],i,j,hi,_ => by simp at hi
 | a :: l,0,j,_,hj => by
   rw [List.flatMap_cons,Nat.zero_mul,Nat.zero_add,List.getElem?_append_left (by rw [h];exact hj)]
   rfl
 | a :: l,i + 1,j,hi,hj => by
   have e : (i + 1) * size + j = (cells a).length + (i * size + j):=by rw [h,Nat.add_mul];omega
   rw [List.flatMap_cons,e,List.getElem?_append_right (Nat.le_add_right _ _),Nat.add_sub_cancel_left]
   exact flat_get cells size h l i j (by simpa using hi) hj
theorem add_plain (b off k : Nat) : (⟨b,off,none⟩ : Addr).add k = ⟨b,off + k,none⟩:=by
 unfold Addr.add
 split <;> simp_all
section
variable {H : Type} {enc : TypeId × Value → H} {P : Program} {w : World} {base : Nat} {spare : Nat → Bool} {held : Bool}
theorem open_rows {α : Type} [Inhabited α] (cells : α → List Value) (Ok : α → Prop) (size : Nat) (hs0 : 0 < size) (hlen : ∀ a,(cells a).length = size) {t e : TypeId} (ht : P.underlying t = some (.slice e)) (hC : P.cellsOf e = size)
 (hdec : ∀ n cs x,DataW.trod enc P w base spare held n e cs = some x → ∃ a,cs = cells a ∧ Ok a) {fuel : Nat} {cs : List Value} {x : DataW H × List MemPlace} (h : DataW.trod enc P w base spare held fuel t cs = some x) :
 ∃ (v : Value) (l : List α) (B : Option Nat),cs = [v] ∧ Rc w size v l.length (l.flatMap cells) B ∧ (∀ a ∈ l,Ok a) ∧ l.length ≤ maxLen:=by
 rcases open_slice ht h with ⟨rfl,_⟩ | ⟨a,len,cap,m,n,D,Pl,rfl,hb,hl,hm,hmm,hx,hi⟩
 · exact ⟨_,[],none,rfl,Rc.nil w size,by simp,by simp⟩
 · have hlm : len ≤ m:=by rw [hmm];split <;> omega
   rw [hC] at hi
   obtain ⟨A,hA⟩:=choose_lt (n:=len) (p:=fun i (a' : α) => w.cells? base (a.add (i * size)) size = some (cells a') ∧ Ok a') (fun i hil => by
    obtain ⟨cs',h1,h2⟩:=hi i (by omega)
    obtain ⟨a',rfl,h3⟩:=hdec _ _ _ h2
    exact ⟨a',h1,h3⟩)
   have hcell : ∀ i j,i < len → j < size → w.cell? (a.add (i * size + j)) = (cells (A i))[j]?:=by
    intro i j hil hj
    obtain ⟨_,_,h2⟩:=World.cells?_some (hA i hil).1
    rw [← Go.Deep.add_add,h2 j hj]
   refine ⟨_,(List.range len).map A,if len = 0 then none else some a.block,rfl,⟨?_,?_,some a,cap,by simp,by simpa using hl,hm,fun h0 => ?_⟩,?_,by simp;omega⟩
   · rw [flat_len cells size hlen]
   · intro b hbb
     split at hbb
     · cases hbb
     · cases hbb
       have h1:=hcell 0 0 (by omega) hs0
       rw [List.getElem?_eq_getElem (by rw [hlen];exact hs0)] at h1
       have:=World.block_lt_of_cell? _ _ h1
       simpa [Addr.add] using this
   · have hl0 : 0 < len:=by simpa using h0
     obtain ⟨ab,off,spot⟩:=a
     have h1:=hcell 0 0 hl0 hs0
     rw [List.getElem?_eq_getElem (by rw [hlen];exact hs0)] at h1
     have hspot : spot = none:=by simpa [Addr.add] using World.cell?_spot h1
     subst hspot
     refine ⟨ab,off,by rw [if_neg (by omega)],rfl,fun j hj => ?_⟩
     rw [flat_len cells size hlen] at hj
     simp only [List.length_map,List.length_range] at hj
     have hq : j / size < len:=Nat.div_lt_of_lt_mul (by rw [Nat.mul_comm];exact hj)
     have hr : j % size < size:=Nat.mod_lt _ hs0
     have hj2 : j = j / size * size + j % size:=by have:=Nat.div_add_mod j size;rw [Nat.mul_comm] at this;omega
     rw [hj2,flat_get cells size hlen _ (j / size) (j % size) (by simpa using hq) hr]
     have h2:=hcell (j / size) (j % size) hq hr
     rw [add_plain] at h2
     rw [h2,List.getElem_map,List.getElem_range]
   · intro a' ha'
     obtain ⟨i,hil,rfl⟩:=List.mem_map.1 ha'
     exact (hA i (by simpa using hil)).2
theorem flat_one {α : Type} (f : α → Value) (l : List α) : l.flatMap (fun a => [f a]) = l.map f:=by
 induction l with
 | nil => rfl
 | cons a l ih => rw [List.flatMap_cons,ih];rfl
theorem open_bools {t e : TypeId} (ht : P.underlying t = some (.slice e)) (he : P.underlying e = some .bool) (hC : P.cellsOf e = 1) {fuel : Nat} {cs : List Value} {x : DataW H × List MemPlace} (h : DataW.trod enc P w base spare held fuel t cs = some x) :
 ∃ (v : Value) (l : List Bool) (B : Option Nat),cs = [v] ∧ Rc w 1 v l.length (l.map .bool) B ∧ l.length ≤ maxLen:=by
 obtain ⟨v,l,B,h1,h2,_,h3⟩:=open_rows (α:=Bool) (fun a => [.bool a]) (fun _ => True) 1 (by decide) (fun _ => rfl) ht hC (fun n cs x hx => by
  obtain ⟨b,hb,_⟩:=DataW.trod_bool he hx
  exact ⟨b,hb,trivial⟩) h
 rw [flat_one] at h2
 exact ⟨v,l,B,h1,h2,h3⟩
theorem bt_of {n : Int} (h : (Lit.int .u8 n).wf = true) : Value.int .u8 n = bt (UInt8.ofNat n.toNat):=by
 have h1 : IntKind.u8.min ≤ n ∧ n ≤ IntKind.u8.max:=by simpa [Lit.wf] using h
 have h2 : IntKind.u8.min = 0:=by decide
 have h3 : IntKind.u8.max = 255:=by decide
 unfold bt
 rw [UInt8.toNat_ofNat']
 congr 1
 omega
end
end Go.Xr
