import Derived.Test.YtbccmdfdclomiaaGreatDoorHL4
/- own -/
namespace Go.Proofs.YtbccmdfdclomiaaGreatDoor
open Go.RowKit
namespace Vr
end Vr
def subN (ims:List (List Nd)) (n:Nd):List Nd:=if n.k=0 then ims.getD n.s.toNat [] else [n]
def sub (ims:List (List Nd)):List Nd→List Nd
 | []=>[]
 | n::a=>subN ims n++sub ims a
theorem sub_append (ims:List (List Nd)) (a b:List Nd):sub ims (a++b)=sub ims a++sub ims b:=by
 induction a with
 | nil=>rfl
 | cons n a ih=>simp [sub,ih]
theorem sub_take (ims:List (List Nd)) (a:List Nd) (k:Nat) (h:k<a.length):sub ims (a.take (k+1))=sub ims (a.take k)++subN ims a[k]:=by
 rw [List.take_succ_eq_append_getElem h,sub_append];simp [sub]
theorem subN_len {ims:List (List Nd)} {M:Nat} (hM:∀ x∈ims,x.length≤M) (h1:1≤M) (n:Nd):(subN ims n).length≤M:=by
 unfold subN
 split
 ·rw [List.getD_eq_getElem?_getD]
  cases h:ims[n.s.toNat]? with
  | none=>simp
  | some x=>exact hM x (List.mem_of_getElem? h)
 ·simpa using h1
theorem sub_len {ims:List (List Nd)} {M:Nat} (hM:∀ x∈ims,x.length≤M) (h1:1≤M) (a:List Nd):(sub ims a).length≤M*a.length:=by
 induction a with
 | nil=>simp [sub]
 | cons n a ih=>have:=subN_len hM h1 n;simp only [sub,List.length_append,List.length_cons,Nat.mul_succ];omega
theorem sub_le (ims:List (List Nd)) (a:List Nd) (k:Nat):(sub ims (a.take k)).length≤(sub ims a).length:=by
 have:=sub_append ims (a.take k) (a.drop k);rw [List.take_append_drop] at this;rw [this];simp
theorem sub_step_le (ims:List (List Nd)) (a:List Nd) (k:Nat) (h:k<a.length):(sub ims (a.take k)).length+(subN ims a[k]).length≤(sub ims a).length:=by
 have:=sub_le ims a (k+1);rw [sub_take ims a k h] at this
 simpa using this
set_option maxRecDepth 20000 in
set_option maxHeartbeats 2000000 in
theorem l03Sub_any (ims:List (List Nd)) (a:List Nd) (va vi:Value) (w:World) (hva:Nds w va a) (hvi:NdsL w vi ims) (ha:a.all okNd=true) (h6:ims.length=6) (hl:(sub ims a).length≤1000000):
  Calls Tryz.prog 58 #[va,vi] w (RetN w (sub ims a)):=by
 have h0:=OwnN.empty w;have k0:=(Keeps.refl w).alloc (.cells #[] 74);have hva0:=hva;have hvi0:=hvi;obtain ⟨p,cap,rfl,hle,hmx,_,hlen⟩:=hva;obtain ⟨pi,ci,rfl,hlei,hmxi,_,_⟩:=hvi;unfold maxLen at hmx hmxi;rw [h6] at hlei;go_enter Tryz.func58,Tryz.ntmps58;go_wp2
 go_loopw [5,6] (fun o i' wr=>∃ k:Nat,k≤a.length∧i'=.int .i64 k∧OwnN wr w.heap.size o (sub ims (a.take k))∧Keeps w wr) (fun _ i _=>a.length-(intOf i).toNat)
 case atStart=>exact ⟨0,by omega,rfl,by simpa [sub] using h0,k0⟩
 case round=>
  obtain ⟨k,hk,rfl,hown,kw⟩:=hrel;clear h0 k0;have hsz:=kw.size
  by_cases hlt:k<a.length
  ·have hlt':(k:Int)<a.length:=by omega
   have hst:=sub_take ims a k hlt;have hsl:=sub_step_le ims a k hlt;obtain ⟨_,_,e1,_,_,hata,_⟩:=hva0.keeps kw
   cases e1
   obtain ⟨b1,o1,rfl,h1,h2⟩:=hata.nd k hlt;clear hata
   by_cases g:a[k].k=0
   ·obtain ⟨s,hs6,es⟩:=ok_sym ha k hlt g
    have hg:(a[k].k==0)=true:=by simp [g]
    rw [es] at h2
    have hil:s<ims.length:=by omega
    obtain ⟨b2,o2,u,e2,hcu,hu⟩:=(hvi0.keeps kw).get s hil;subst e2
    have hsn:subN ims a[k]=ims[s]:=by unfold subN;rw [if_pos g,es,Int.toNat_natCast,List.getD_eq_getElem?_getD,List.getElem?_eq_getElem hil];rfl
    rw [hsn] at hst hsl;obtain ⟨p2,n2,q2,rfl⟩:=hu.shape;have HST:=hid hst;clear hst
    have hs6':(s:Int)<6:=by omega
    clear hsn g es hva0 hvi0
    go_wp2_with (at_builtin;refine appN rfl _ _ rfl w.heap.size _ _ rfl hown _ _ rfl hu hsz (by omega) ?_;intro v1 w1 hv1 hg1 hr1;have k2:=kw.grown hg1 hr1)
    go_roundw
    case rel=>exact ⟨k+1,by omega,by go_num,by rw [HST.out];exact hv1,k2⟩
    case measure=>simp [intOf];omega
   ·have hg:(a[k].k==0)=false:=by simp [g]
    have hsn:subN ims a[k]=[a[k]]:=by unfold subN;rw [if_neg g]
    rw [hsn] at hst hsl;have HST:=hid hst;clear hst;have hlit:=(OwnN.lit1 wr a[k]).nds (by simp);have kb:=(Keeps.refl wr).alloc (.cells #[.int .i64 a[k].k,.int .i64 a[k].s] 74);simp only [List.length_cons,List.length_nil] at hsl;clear hsn g hva0 hvi0
    go_wp2_with (at_builtin;refine appN rfl _ _ rfl w.heap.size _ _ rfl (hown.keeps kb) _ _ rfl hlit (by simp;omega) (by simp;omega) ?_;intro v1 w1 hv1 hg1 hr1;have k2:=(kw.trans kb).grown hg1 hr1)
    go_roundw
    case rel=>exact ⟨k+1,by omega,by go_num,by rw [HST.out];exact hv1,k2⟩
    case measure=>simp [intOf];omega
  ·go_wp2
   go_ret;rw [List.take_of_length_le (by omega)] at hown;exact ⟨_,rfl,hown,kw⟩
end Go.Proofs.YtbccmdfdclomiaaGreatDoor
