import Derived.Test.YtmmbnjijjdakmaaGreatDoorVcSt
namespace Go.Vc
set_option linter.unusedVariables false
set_option linter.unusedSimpArgs false
open Go
theorem Sta.perm {h0 h:Heap} {L L':Rws} {D:Heap→Prop} (hp:L.Perm L') (st:Sta h0 h L D):Sta h0 h L' D:=by
 have hb:L.bs.Perm L'.bs:=hp.map _
 refine ⟨st.ext,fun b cs hm=>st.row b cs (hp.mem_iff.2 hm),fun b hm=>st.low b (hb.mem_iff.2 hm),hb.nodup_iff.1 st.nod,fun h' hx=>st.dat h' (hx.mono fun x hx=>hb.mem_iff.2 hx)⟩
theorem Sta.sub {h0 h:Heap} {L L':Rws} {D:Heap→Prop} (hs:L'.Sublist L) (st:Sta h0 h L D):Sta h0 h L' D:=by
 have hb:L'.bs.Sublist L.bs:=hs.map _
 exact ⟨st.ext,fun b cs hm=>st.row b cs (hs.subset hm),fun b hm=>st.low b (hb.subset hm),hb.nodup st.nod,fun h' hx=>st.dat h' (hx.mono fun x hx=>hb.subset hx)⟩
theorem ZjR {h0:Heap} {L:Rws} {D:Heap→Prop} {b:Nat} {post:List Value}:∀ (news mid pre:List Value) (off i:Nat) (h:Heap) (K:Heap→Prop),off+i=pre.length→mid.length=news.length→(∀ v∈news,v.oneCell'=true) →
  Sta h0 h ((b,.cs (pre++mid++post))::L) D→(∀ h',Sta h0 h' ((b,.cs (pre++news++post))::L) D→K h')→vStoreN ⟨b,off,none⟩ news i h K
 | [],[],pre,off,i,h,K,_,_,_,st,hk=>hk h st
 | [],_::_,_,_,_,_,_,_,hl,_,_,_=>by simp at hl
 | _::_,[],_,_,_,_,_,_,hl,_,_,_=>by simp at hl
 | v::news,c::mid,pre,off,i,h,K,ho,hl,h1,st,hk=>by
  unfold vStoreN
  have st0:Sta h0 h ((b,.cs (pre++[c]++(mid++post)))::L) D:=by simpa using st
  refine Zze st0 0 ho.symm (by rw [Z7];rfl) rfl (h1 v (List.mem_cons_self ..)) fun h' st'=>?_
  refine ZjR news mid (pre++[v]) off (i+1) h' K (by simp;omega) (by simpa using hl) (fun u hu=>h1 u (List.mem_cons_of_mem _ hu)) (by simpa using st') fun h'' st''=>hk h'' (by simpa using st'')
end Go.Vc
