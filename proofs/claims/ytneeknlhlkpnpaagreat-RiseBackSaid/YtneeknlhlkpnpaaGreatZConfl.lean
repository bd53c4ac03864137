import Derived.Test.YtneeknlhlkpnpaaGreatZRPlain
/-
 Plain law: the order in which ready vertices are placed does not matter. Written by an AI agent.
-/
namespace Go.Proofs.YtneeknlhlkpnpaaGreat
open Go.RowKit
section
variable {N:Nat}{es:List (Int×Int)}{outs:List (List Int)}{s:Nat}
theorem iK{r:List Itm}{x y:Nat}{A E B C F D:List Itm}(hxy:x≠y)(h1:CutR es r x A E B)(h2:CutR es r y C F D)(hE:E≠[])(hF:F≠[]) :
  (∃M,B=M++F++D∧C=A++E++M) ∨ ∃M,D=M++E++B∧A=C++F++M:=by
 obtain ⟨⟨ea,a1,a2⟩,_⟩:=h1.ends hE;obtain ⟨⟨eb,b1,b2⟩,_⟩:=h2.ends hF;have hlE:=List.length_pos_iff.2 hE;have hlF:=List.length_pos_iff.2 hF;have hr1:=h1.row;have hr2:=h2.row
 have ga:r[A.length]? = some ea:=by
  rw [hr1,List.append_assoc,List.getElem?_append_right (Nat.le_refl _),Nat.sub_self,List.getElem?_append_left hlE,←List.head?_eq_getElem?,a1]
 have gc:r[C.length]? = some eb:=by
  rw [hr2,List.append_assoc,List.getElem?_append_right (Nat.le_refl _),Nat.sub_self,List.getElem?_append_left hlF,←List.head?_eq_getElem?,b1]
 have inE:∀k e,A.length≤k→k<A.length+E.length→r[k]? = some e→e.2.2=(x:Int)∨e.2.2 = -1:=fun k e k1 k2 hk=>by
  rw [hr1,List.append_assoc,List.getElem?_append_right k1,List.getElem?_append_left (by omega)] at hk;exact h1.ine e (List.mem_of_getElem? hk)
 have inF:∀k e,C.length≤k→k<C.length+F.length→r[k]? = some e→e.2.2=(y:Int)∨e.2.2 = -1:=fun k e k1 k2 hk=>by
  rw [hr2,List.append_assoc,List.getElem?_append_right k1,List.getElem?_append_left (by omega)] at hk;exact h2.ine e (List.mem_of_getElem? hk)
 have hor:A.length+E.length≤C.length∨C.length+F.length≤A.length:=by
  apply Classical.byContradiction;intro hn;by_cases hac:A.length≤C.length
  ·rcases inE C.length eb hac (by omega) gc with h | h<;>omega
  ·rcases inF A.length ea (by omega) (by omega) ga with h | h<;>omega
 rw [hr1] at hr2;rcases hor with h | h
 ·left
  rw [List.append_assoc C F D] at hr2;rcases List.append_eq_append_iff.1 hr2 with ⟨M,e1,e2⟩ | ⟨M,e1,e2⟩
  ·exact ⟨M,by rw [e2,List.append_assoc],e1⟩
  ·have:M=[]:=by
    have:=congrArg List.length e1;simp only [List.length_append] at this;exact List.length_eq_zero_iff.1 (by omega)
   subst this;exact ⟨[],by simpa using e2.symm,by simpa using e1.symm⟩
 ·right
  rw [List.append_assoc A E B] at hr2;rcases List.append_eq_append_iff.1 hr2 with ⟨M,e1,e2⟩ | ⟨M,e1,e2⟩
  ·have:M=[]:=by
    have:=congrArg List.length e1;simp only [List.length_append] at this;exact List.length_eq_zero_iff.1 (by omega)
   subst this;exact ⟨[],by simpa using e2.symm,by simpa using e1.symm⟩
  ·exact ⟨M,by rw [e2,List.append_assoc],e1⟩
theorem SwI.tails{r:List Itm}{pl:List Int}{en:List (List Itm)}(h:SwI N es outs r pl en)(hO:zO N es outs){y:Nat}{C F D:List Itm}(hc:CutR es r y C F D){i:Nat}(hi:i<es.length)(hh:(es.getD i (0,0)).2=(y:Int)):(es.getD i (0,0)).1∈pl:=by
 have hFr:∀e∈F,e∈r:=fun e he=>by rw [hc.row];simp [he]
 have hnd:F.Nodup:=by
  have:=(List.nodup_append.1 (h.nodup hO)).1;rw [hc.row] at this;exact (List.nodup_append.1 (List.nodup_append.1 this).1).2.1
 have key:(jK es Prod.snd (y:Nat) es.length).map (fun a=>itE es a.toNat)⊆F.filter fun e=>decide (e.2.2=(y:Int)):=by
  refine uD (hnd.filter _) (fun e he=>?_) ?_
  ·obtain ⟨h1,h2⟩:=List.mem_filter.1 he;have h2:=of_decide_eq_true h2;rcases h.item hO (List.mem_append_left _ (hFr e h1)) with ⟨j,hj,_,rfl⟩ | ⟨x,_,_,rfl⟩
   ·exact List.mem_map.2 ⟨(j:Int),ql.2 ⟨j,rfl,hj,h2⟩,rfl⟩
   ·simp at h2
  ·rw [List.length_map,←List.countP_eq_length_filter,hc.cnt];exact Nat.le_refl _
 have h1:itE es i∈F:=(List.mem_filter.1 (key (List.mem_map.2 ⟨(i:Int),ql.2 ⟨i,rfl,hi,hh⟩,rfl⟩))).1;rcases h.item hO (List.mem_append_left _ (hFr _ h1)) with ⟨j,hj,h2,e⟩ | ⟨x,_,_,e⟩
 ·have:i=j:=by have:=congrArg Prod.fst e;simp [itE] at this;omega
  rw [this];exact h2
 ·have:=congrArg Prod.fst e;simp [itE] at this
theorem SwI.apart{r:List Itm}{pl:List Int}{en:List (List Itm)}(h:SwI N es outs r pl en)(hO:zO N es outs){x y:Nat}(hx:x<N)(hp:(x:Int)∉pl){C F D:List Itm}(hc:CutR es r y C F D):∀e∈yD es outs x,e.2.2≠(y:Int):=by
 intro e he e1;rcases (QG hO hx).1 he with ⟨i,hi,h1,rfl⟩ | ⟨_,rfl⟩
 ·have:=h.tails hO hc hi e1;rw [h1] at this;exact hp this
 ·simp at e1
theorem CutR.same{r:List Itm}{x:Nat}{A E B A' E' B':List Itm}(h:CutR es r x A E B)(h':CutR es r x A' E' B'):E'=E∧A'++yD es outs x++B'=A++yD es outs x++B:=⟨by rw [←h.gone,←h'.gone],by unfold yD;rw [←h.place,←h'.place]⟩
theorem Walk.mems{st fin:Ju}{rest:List Nat}(hw:Walk es outs st rest fin):∀pl':List Int,(∀a,a∈pl'↔a∈st.2.1)→Walk es outs (st.1,pl',st.2.2) rest (fin.1,pl'++yd rest,fin.2.2):=by
 induction hw with
 | nil st=>intro pl' _;unfold yd;simp only [List.map_nil,List.append_nil];exact Walk.nil _
 | @cons r pl en x A E B rest fin hp hc hw ih=>
  intro pl' hm;refine Walk.cons (fun h=>hp ((hm _).1 h)) hc ?_
  have:=ih (pl'++[(x:Int)]) (fun a=>by
   have:=hm a
   simp only [List.mem_append,this])
  have e:pl'++yd (x::rest)=pl'++[(x:Int)]++yd rest:=by simp [yd]
  rw [e];exact this
theorem mL{r:List Itm}{pl:List Int}{en:List (List Itm)}(hI:SwI N es outs r pl en)(hO:zO N es outs)(hs:∀y,y<N→inD es y=0→y=s)(hS:dQ s (r,pl,en)){x y:Nat}(hx:x<N)(hy:y<N)(hxy:x≠y)(hpx:(x:Int)∉pl)(hpy:(y:Int)∉pl){A E B C F D:List Itm}(h1:CutR es r x A E B)(h2:CutR es r y C F D) :
  ∃C' D' A' B',CutR es (A++yD es outs x++B) y C' F D'∧CutR es (C++yD es outs y++D) x A' E B'∧C'++yD es outs y++D'=A'++yD es outs x++B':=by
 have hE:E≠[]:=fun e=>by
  obtain ⟨_,hz⟩:=hS.step (outs:=outs) hs hx hpx h1;have hr:=hz e
  have hF:F=[]:=by
   have:=h2.row;rw [hr] at this;exact (List.append_eq_nil_iff.1 (List.append_eq_nil_iff.1 this.symm).1).2
  exact hxy ((hs x hx (h1.nil e).2).trans (hs y hy (h2.nil hF).2).symm)
 have hF:F≠[]:=fun e=>by
  obtain ⟨_,hz⟩:=hS.step (outs:=outs) hs hy hpy h2;have hr:=hz e;apply hE;have:=h1.row;rw [hr] at this;exact (List.append_eq_nil_iff.1 (List.append_eq_nil_iff.1 this.symm).1).2
 have ax:=hI.apart hO hx hpx h2;have ay:=hI.apart hO hy hpy h1
 have hpy':(y:Int)∉pl++[(x:Int)]:=by
  simp only [List.mem_append,List.mem_singleton,not_or];exact ⟨hpy,fun e=>hxy (by omega)⟩
 have hpx':(x:Int)∉pl++[(y:Int)]:=by
  simp only [List.mem_append,List.mem_singleton,not_or];exact ⟨hpx,fun e=>hxy (by omega)⟩
 rcases iK hxy h1 h2 hE hF with ⟨M,rfl,rfl⟩ | ⟨M,rfl,rfl⟩
 ·refine ⟨A++yD es outs x++M,D,A,M++yD es outs y++D,?_,?_,by simp only [List.append_assoc]⟩
  ·refine (vZ hpy' (by simp only [List.append_assoc]) (fun e he=>?_) h2.ine h2.cnt (fun e=>absurd e hF) h2.ends).2;simp only [List.mem_append] at he;rcases he with ((he | he) | he) | he
   ·exact h2.out e (by simp [he])
   ·exact ax e he
   ·exact h2.out e (by simp [he])
   ·exact h2.out e (by simp [he])
  ·refine (vZ hpx' (by simp only [List.append_assoc]) (fun e he=>?_) h1.ine h1.cnt (fun e=>absurd e hE) h1.ends).2;simp only [List.mem_append] at he;rcases he with he | ((he | he) | he)
   ·exact h1.out e (by simp [he])
   ·exact h1.out e (by simp [he])
   ·exact ay e he
   ·exact h1.out e (by simp [he])
 ·refine ⟨C,M++yD es outs x++B,C++yD es outs y++M,B,?_,?_,by simp only [List.append_assoc]⟩
  ·refine (vZ hpy' (by simp only [List.append_assoc]) (fun e he=>?_) h2.ine h2.cnt (fun e=>absurd e hF) h2.ends).2;simp only [List.mem_append] at he;rcases he with he | ((he | he) | he)
   ·exact h2.out e (by simp [he])
   ·exact h2.out e (by simp [he])
   ·exact ax e he
   ·exact h2.out e (by simp [he])
  ·refine (vZ hpx' (by simp only [List.append_assoc]) (fun e he=>?_) h1.ine h1.cnt (fun e=>absurd e hE) h1.ends).2;simp only [List.mem_append] at he;rcases he with ((he | he) | he) | he
   ·exact h1.out e (by simp [he])
   ·exact ay e he
   ·exact h1.out e (by simp [he])
   ·exact h1.out e (by simp [he])
theorem Walk.first(hO:zO N es outs)(hs:∀y,y<N→inD es y=0→y=s){y:Nat}{rest2:List Nat}:∀(rest1:List Nat) {st fin:Ju},Walk es outs st (rest1++y::rest2) fin→(rest1++y::rest2).Nodup→(∀x∈rest1++y::rest2,x<N)→dQ s st→SwI N es outs st.1 st.2.1 st.2.2 →
  ∀ {C F D:List Itm},(y:Int)∉st.2.1→CutR es st.1 y C F D → ∃pl',Walk es outs (C++yD es outs y++D,st.2.1++[(y:Int)],st.2.2.set y F) (rest1++rest2) (fin.1,pl',fin.2.2)
 | [],st,fin,hw,_,_,_,_,C,F,D,hp,hc=>by
  rw [List.nil_append] at hw
  cases hw with
  | @cons r pl en _ A E B _ _ hp' hc' hw=>
   obtain ⟨e1,e2⟩:=hc.same (outs:=outs) hc';rw [e1,e2] at hw;exact ⟨_,hw⟩
 | x::rest1,st,fin,hw,hn,hr,hS,hI,C,F,D,hp,hc=>by
  rw [List.cons_append] at hw hn hr
  cases hw with
  | @cons r pl en _ A E B _ _ hpx hcx hw=>
   have hx:=hr x (List.mem_cons_self ..);have hy:=hr y (by simp);have hn2:=List.nodup_cons.1 hn;have hxy:x≠y:=fun e=>hn2.1 (by rw [e];simp);obtain ⟨C',D',A',B',k1,k2,k3⟩:=mL hI hO hs hS hx hy hxy hpx hp hcx hc;obtain ⟨hS',_⟩:=hS.step (outs:=outs) hs hx hpx hcx;have hI':=hI.step (outs:=outs) hx hpx hcx
   have hpy':(y:Int)∉pl++[(x:Int)]:=by
    simp only [List.mem_append,List.mem_singleton,not_or];exact ⟨hp,fun e=>hxy (by omega)⟩
   have hpx':(x:Int)∉pl++[(y:Int)]:=by
    simp only [List.mem_append,List.mem_singleton,not_or];exact ⟨hpx,fun e=>hxy (by omega)⟩
   obtain ⟨pl',h1⟩:=Walk.first hO hs rest1 hw hn2.2 (fun z hz=>hr z (List.mem_cons_of_mem _ hz)) hS' hI' hpy' k1
   have h2:=h1.mems (pl++[(y:Int)]++[(x:Int)]) (fun a=>by simp only [List.mem_append];constructor<;>(rintro ((h | h) | h)<;>simp [h]));refine ⟨pl++[(y:Int)]++[(x:Int)]++yd (rest1++rest2),?_⟩
   show Walk es outs (C++yD es outs y++D,pl++[(y:Int)],en.set y F) (x::(rest1++rest2)) _
   refine Walk.cons hpx' k2 ?_;have e1:(en.set y F).set x E=(en.set x E).set y F:=List.set_comm _ _ (fun e=>hxy e.symm);rw [e1,←k3];exact h2
theorem Walk.any(hO:zO N es outs)(hs:∀y,y<N→inD es y=0→y=s){st fin:Ju}{rest:List Nat}(hw:Walk es outs st rest fin)(hn:rest.Nodup)(hr:∀x∈rest,x<N)(hS:dQ s st)(hI:SwI N es outs st.1 st.2.1 st.2.2){y:Nat}(hy:y∈rest){C F D:List Itm}(hp:(y:Int)∉st.2.1)(hc:CutR es st.1 y C F D) :
  ∃rest' pl',rest.Perm (y::rest')∧Walk es outs (C++yD es outs y++D,st.2.1++[(y:Int)],st.2.2.set y F) rest' (fin.1,pl',fin.2.2):=by
 obtain ⟨l1,l2,rfl⟩:=List.append_of_mem hy;obtain ⟨pl',h⟩:=Walk.first hO hs l1 hw hn hr hS hI hp hc
 exact ⟨l1++l2,pl',List.perm_middle,h⟩
end
end Go.Proofs.YtneeknlhlkpnpaaGreat
