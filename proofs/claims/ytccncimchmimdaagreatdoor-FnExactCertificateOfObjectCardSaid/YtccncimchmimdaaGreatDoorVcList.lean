import Derived.Test.YtccncimchmimdaaGreatDoorVcSt
namespace Go.Vc
set_option linter.unusedVariables false
set_option linter.unusedSimpArgs false
open Go
theorem Sta.perm {e h:Heap} {L L':Rws} {D:Heap->Prop} (hp:L.Perm L') (st:Sta e h L D):Sta e h L' D:=by
 have a:L.bs.Perm L'.bs:=hp.map _
 refine ⟨st.ext,fun b cs g=>st.row b cs (hp.mem_iff.2 g),fun b g=>st.low b (a.mem_iff.2 g),a.nodup_iff.1 st.nod,fun j c=>st.dat j (c.mono fun x c=>a.mem_iff.2 c)⟩
theorem Sta.sub {e h:Heap} {L L':Rws} {D:Heap->Prop} (hs:L'.Sublist L) (st:Sta e h L D):Sta e h L' D:=by
 have a:L'.bs.Sublist L.bs:=hs.map _
 exact ⟨st.ext,fun b cs g=>st.row b cs (hs.subset g),fun b g=>st.low b (a.subset g),a.nodup st.nod,fun j c=>st.dat j (c.mono fun x c=>a.subset c)⟩
theorem Zhb {a:Heap} {L:Rws} {D:Heap->Prop} {b:Nat} {k:List Value}:∀ (news j g:List Value) (off i:Nat) (h:Heap) (K:Heap->Prop),off+i=g.length->j.length=news.length->(∀ v∈news,v.oneCell'=true) ->
  Sta a h ((b,.cs (g++j++k))::L) D->(∀ l,Sta a l ((b,.cs (g++news++k))::L) D->K l)->vStoreN ⟨b,off,none⟩ news i h K
 | [],[],g,off,i,h,K,_,_,_,st,hk=>hk h st
 | [],_::_,_,_,_,_,_,_,hl,_,_,_=>by simp at hl
 | _::_,[],_,_,_,_,_,_,hl,_,_,_=>by simp at hl
 | v::news,c::j,g,off,i,h,K,ho,hl,e,st,hk=>by
  unfold vStoreN
  have f:Sta a h ((b,.cs (g++[c]++(j++k)))::L) D:=by simpa using st
  refine ZF9 f 0 ho.symm (by rw [Z7];rfl) rfl (e v (List.mem_cons_self ..)) fun l w=>?_
  refine Zhb news j (g++[v]) off (i+1) l K (by simp;omega) (by simpa using hl) (fun u x=>e u (List.mem_cons_of_mem _ x)) (by simpa using w) fun r o=>hk r (by simpa using o)
end Go.Vc
